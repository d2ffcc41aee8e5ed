/- Contract: l09DrawAny, a library that is mostly valid. Condition: a well-formed source. -/
import Derived.Test.YtgegbgkokkdmpaaGreatQ18
import Derived.Deep.RegionLaw
import Derived.Deep.CutBlock
import Derived.Deep.CutRange

namespace Go.Proofs.YtgegbgkokkdmpaaGreat
open Go.RowKit

theorem DO.of_lib {w w1 : World} {g n c : Nat} {A : Option Addr} {ps : List (CellD × Sl3)} (hg : g < w.heap.size) (hC : CW w1 (w.heap.size + 1) (.slice A n c) ps) (hA : Apart3 (ps.map Prod.snd)) (hD : Dice w1 g) (hz : Bk w1 w.heap.size 26 #[.slice none 0 0]) (hG : w.grownBy w1 (some g)) :
    DO w (w1.alloc (.cells #[.slice A n c] 26)) g w1.heap.size (.slice A n c) ps :=
  ⟨hD.alloc _, hz.alloc _, Bk.new w1 _ _, (hC.alloc _).less (Nat.le_succ _), hA, only_alloc hG _, hg, hz.lt⟩

theorem set_same {α : Type} {ps : List α} {k : Nat} {p : α} (h : ps[k]? = some p) : ps.set k p = ps := by
  apply List.ext_getElem?
  intro i
  by_cases hi : k = i
  · subst hi
    rw [List.getElem?_set_self (List.getElem?_eq_some_iff.1 h).1, h]
  · rw [List.getElem?_set_ne hi]

set_option maxHeartbeats 6400000 in
set_option maxRecDepth 100000 in
/-- l09DrawAny. -/
theorem drawAny_any (g : Nat) (w : World) (hD : Dice w g) : Calls Tryz.prog 42 #[.pointer (some ⟨g, 0, none⟩)] w fun e w' => ∃ (cv : Value) (ps : List (CellD × Sl3)), e = .returned (.agg #[cv]) ∧ (1 ≤ ps.length ∧ ps.length ≤ 4) ∧
    (∀ p ∈ ps, Sm p.1) ∧ CW w' w.heap.size cv ps ∧ Dice w' g ∧ w.grownBy w' (some g) := by
  have hg := hD.lt
  have hD0 := hD.alloc (.cells #[.slice none 0 0] 26)
  have z0 := Bk.new w 26 #[.slice none 0 0]
  have hA := only_alloc (only_refl w (some g)) (.cells #[.slice none 0 0] 26)
  have hs0 : (w.alloc (.cells #[.slice none 0 0] 26)).heap.size = w.heap.size + 1 := by simp
  clear hD
  go_enter Tryz.func42, Tryz.ntmps42
  go_wp2_with fail
  refine (drawLib_any g _ hD0).mono ?_
  rintro e w1 ⟨cv, ps, rfl, ⟨hn1, hn4⟩, hV, hC, hAp, hD1, hG1⟩
  have z1 := z0.grown hG1 (by simp; omega)
  have hA1 := only_trans hA hG1
  rw [hs0] at hC
  obtain ⟨A, c, rfl, -, hm⟩ := hC.form
  obtain ⟨q, -, hq, -⟩ := hC.elem (k := 0) (by omega)
  subst hq
  have O := DO.of_lib hg hC hAp hD1 z1 hA1
  have Sm0 : ∀ p ∈ ps, Sm p.1 := fun p hp => by
    obtain ⟨k, hk⟩ := List.getElem?_of_mem hp
    obtain ⟨h1, h2⟩ := hV k p hk
    exact h1.sm h2
  have HS := Lib.hid Sm0
  have HL3 := Lib.hid (show ∀ k p, ps[k]? = some p → p.1.shapes.length ≤ 3 ∧ p.1.labels.length ≤ 3 ∧ p.1.insts.length ≤ 3 from fun k p hk => (hV k p hk).2)
  have t0 := O.lib.cell 0
  have tl := O.lib.lt
  clear hV hC hAp hD1 hG1 z0 z1 hA hA1 hs0 Sm0
  go_wp2_with fail
  refine (next_ge1 g (ps.length : Int) _ O.dice (by omega)).mono ?_
  rintro e w2 ⟨k0, rfl, hk0, hD2, hG2⟩
  obtain ⟨k, rfl⟩ : ∃ k : Nat, k0 = k := ⟨k0.toNat, by omega⟩
  have hk : k < ps.length := by omega
  have O2 := O.next hD2 hG2
  have t2 := O2.lib.cell 0
  clear O t0 hD2 hG2
  go_wp2_with fail
  refine (next_any g 16 _ O2.dice (by omega)).mono ?_
  rintro e w3 ⟨j, rfl, hj, hD3, hG3⟩
  have O3 := O2.next hD3 hG3
  clear O2 hD3 hG3 t2
  have hlen0 : ps.length ≤ 4 := hn4
  obtain ⟨p, hp⟩ : ∃ p, ps[k]? = some p := ⟨_, List.getElem?_eq_getElem hk⟩
  have Hp := Lib.hid hp
  clear hp
  go_upto_block 0 with fail
  go_cut [] from 6 to 132 (fun wx => ∃ ps' : List (CellD × Sl3), ps'.length = ps.length ∧ Hid (∀ p ∈ ps', Sm p.1) ∧ DO w wx g w1.heap.size (.slice (some ⟨q, 0, none⟩) ps.length c) ps')
  case first =>
    obtain ⟨⟨nm, ss, ls, is⟩, ⟨uS, uL, uI⟩⟩ := p
    have hCk := O3.cw.each k _ Hp.out
    obtain ⟨A1, c1, e1, -, -⟩ := hCk.s.form
    obtain ⟨A2, c2, e2, -, -⟩ := hCk.l.form
    obtain ⟨A3, c3, e3, -, -⟩ := hCk.i.form
    dsimp only at e1 e2 e3
    subst e1 e2 e3
    obtain ⟨hls, hll, hli⟩ := HL3.out _ _ Hp.out
    dsimp only at hls hll hli
    clear hCk
    have t3 := O3.lib.cell 0
    by_cases h0 : j = 0
    · subst h0
      obtain ⟨p0, hp0⟩ : ∃ p, ps[0]? = some p := ⟨_, List.getElem?_eq_getElem (by omega)⟩
      have n0 : w3.cell? ⟨q, 0, none⟩ = some (.string p0.1.name) := by have := (O3.cells hp0).1; rwa [Nat.zero_mul] at this
      have nk := (O3.cells Hp.out).1
      have fk : w3.frozen? ⟨q, k * 4, none⟩ = false := O3.cw.own.frozen _
      have HO := Lib.hid (O3.name Hp.out p0.1.name)
      have Hn := Lib.hid (HS.out p0 (List.mem_of_getElem? hp0)).n
      have hps0 : 0 < ps.length := by omega
      clear O3 hp0
      go_wp2_with fail
      go_meet
      have HH := HO.out; refine ⟨_, ?_, ?_, HH⟩; (· simp); exact Lib.hid (sm_set HS.out ⟨Hn.out, (HS.out _ (List.mem_of_getElem? Hp.out)).l, ⟨by first | (simp; omega) | (dsimp only; omega) | omega, by first | (simp; omega) | (dsimp only; omega) | omega, by first | (simp; omega) | (dsimp only; omega) | omega⟩⟩)
    have b0 : (j == 0) = false := by simpa using h0
    by_cases h1 : j = 1
    · subst h1
      have K4 := Bk.new w3 9 names4
      have O4 := O3.on (o_alloc w3 (.cells names4 9))
      have hgi : some w3.heap.size ≠ some g := by have := O3.dice.lt; simp; omega
      clear O3
      go_wp2_with fail
      refine (next_any g 4 _ O4.dice (by omega)).mono ?_
      rintro e w5 ⟨x, rfl, hx, hD5, hG5⟩
      obtain ⟨m, rfl⟩ : ∃ m : Nat, x = m := ⟨x.toNat, by omega⟩
      obtain ⟨zn, hzn, hzs⟩ := names4_get m (by omega)
      have hm4 : m < 4 := by omega
      have K5 := ((K4.grown hG5 hgi).cell m).trans hzn
      have O5 := O4.next hD5 hG5
      have nk := (O5.cells Hp.out).1
      have fk : w5.frozen? ⟨q, k * 4, none⟩ = false := O5.cw.own.frozen _
      have HO := Lib.hid (O5.name Hp.out zn)
      clear O4 O5 K4 hD5 hG5 hzn
      go_wp2_with fail
      go_meet
      have HH := HO.out; refine ⟨_, ?_, ?_, HH⟩; (· simp); exact Lib.hid (sm_set HS.out ⟨hzs, (HS.out _ (List.mem_of_getElem? Hp.out)).l, ⟨by first | (simp; omega) | (dsimp only; omega) | omega, by first | (simp; omega) | (dsimp only; omega) | omega, by first | (simp; omega) | (dsimp only; omega) | omega⟩⟩)
    have b1 : (j == 1) = false := by simpa using h1
    by_cases h2 : j = 2
    · subst h2
      have X0 := Lib.hid (O3.on (Below.refl _ _).drew)
      have dm := (O3.cells Hp.out).2.1
      have d0 := (X0.out.cells Hp.out).2.1
      have l0 := O3.block.2.1
      have hlen : ss.length ≤ 1000000 := by omega
      clear O3
      go_upto_region 10 with fail
      go_region_law (first
        | (refine step_append_F (t := 70) (n := 5) (enc := ShapeD.vals) rfl (.tmp 47) (.tmp 65) 46 40 _ infoShape Tryz.underlying46 rfl (by decide) (by decide) rfl w.heap.size (.slice A1 ss.length c1) ss ⟨x1 - 2, ⟨x2 - 45, x3 - 45, x4 - 45, x5 - 45⟩⟩ rfl (((X5.out.on (o_alloc _ _)).cw.each k _ Hp.out).s) rfl (shapeV_one _) w15.heap.size rfl (Bk.new w15 _ _) hlen (by have := X5.out.gro.size; simp; omega) ?_; intro v' w30 k1 k2 k3; obtain ⟨Av, cw, hv', -, -⟩ := k1.form; rw [List.length_append, List.length_singleton] at hv'; subst hv'; have LA := X5.out.on (o_alloc w15 (.cells #[.int .i64 (x1 - 2), .int .i64 (x2 - 45), .int .i64 (x3 - 45), .int .i64 (x4 - 45), .int .i64 (x5 - 45)] 70)); have hC := LA.cw.each k _ Hp.out; obtain ⟨d30, f30⟩ := LA.after Hp.out hC.s (by decide) k2 1 _ rfl; have L30 := Lib.hid (LA.grow Hp.out (fun b hb => .inl hb) hC.s (by decide) k2 1 (by decide) (.slice Av (ss.length + 1) cw) (⟨nm, ss ++ [⟨x1 - 2, ⟨x2 - 45, x3 - 45, x4 - 45, x5 - 45⟩⟩], ls, is⟩, ⟨.slice Av (ss.length + 1) cw, .slice A2 ls.length c2, .slice A3 is.length c3⟩) rfl ⟨k1, World.ownsRow.kept hC.l k2 (own_types hC.l hC.s (by decide)), World.ownsRow.kept hC.i k2 (own_types hC.i hC.s (by decide))⟩ k3 (fun b hb => (by rcases hb with h | h | h; exact .inr h; exact .inl (.inr (.inl h)); exact .inl (.inr (.inr h))))); clear LA hC k1 k2 k3)
        | (go_simp; have _ := hx4; go_at_call 24; ((with_reducible refine (next_any g 90 _ X4.out.dice (by omega)).mono ?_); rintro e w15 ⟨x5, rfl, hx5, hD5, hG5⟩; have e5 := Go.IntWalk.i64_in (x5 - 45) (by omega); have X5 := Lib.hid (X4.out.next hD5 hG5); have d5 := (X5.out.cells Hp.out).2.1; have l5 := X5.out.block.2.1; clear hD5 hG5; (try dsimp only)))
        | (go_simp; have _ := hx3; go_at_call 24; ((with_reducible refine (next_any g 90 _ X3.out.dice (by omega)).mono ?_); rintro e w14 ⟨x4, rfl, hx4, hD4, hG4⟩; have e4 := Go.IntWalk.i64_in (x4 - 45) (by omega); have X4 := Lib.hid (X3.out.next hD4 hG4); have d4 := (X4.out.cells Hp.out).2.1; have l4 := X4.out.block.2.1; clear hD4 hG4; (try dsimp only)))
        | (go_simp; have _ := hx2; go_at_call 24; ((with_reducible refine (next_any g 90 _ X2.out.dice (by omega)).mono ?_); rintro e w13 ⟨x3, rfl, hx3, hD3, hG3⟩; have e3 := Go.IntWalk.i64_in (x3 - 45) (by omega); have X3 := Lib.hid (X2.out.next hD3 hG3); have d3 := (X3.out.cells Hp.out).2.1; have l3 := X3.out.block.2.1; clear hD3 hG3; (try dsimp only)))
        | (go_simp; have _ := hx1; go_at_call 24; ((with_reducible refine (next_any g 90 _ X1.out.dice (by omega)).mono ?_); rintro e w12 ⟨x2, rfl, hx2, hD2, hG2⟩; have e2 := Go.IntWalk.i64_in (x2 - 45) (by omega); have X2 := Lib.hid (X1.out.next hD2 hG2); have d2 := (X2.out.cells Hp.out).2.1; have l2 := X2.out.block.2.1; clear hD2 hG2; (try dsimp only)))
        | (go_simp; go_at_call 24; ((with_reducible refine (next_any g 12 _ X0.out.dice (by omega)).mono ?_); rintro e w11 ⟨x1, rfl, hx1, hD1, hG1⟩; have e1 := Go.IntWalk.i64_in (x1 - 2) (by omega); have X1 := Lib.hid (X0.out.next hD1 hG1); have d1 := (X1.out.cells Hp.out).2.1; have l1 := X1.out.block.2.1; clear hD1 hG1; (try dsimp only)))
        )
      all_goals
        go_wp2_with fail
        go_meet
        have HH := L30.out; refine ⟨_, ?_, ?_, HH⟩; (· simp); exact Lib.hid (sm_set HS.out ⟨(HS.out _ (List.mem_of_getElem? Hp.out)).n, (HS.out _ (List.mem_of_getElem? Hp.out)).l, by first | (simp; omega) | (dsimp only; omega) | omega, by first | (simp; omega) | (dsimp only; omega) | omega, by first | (simp; omega) | (dsimp only; omega) | omega⟩)
    have b2 : (j == 2) = false := by simpa using h2
    by_cases h3 : j = 3
    · subst h3
      have hlen : is.length ≤ 1000000 := by omega
      have ek := Go.IntWalk.i64_in ((k : Int) + 1) (by omega)
      go_wp2_with fail
      refine (drawInst_any g ((k : Int) + 1) _ O3.dice (by omega)).mono ?_
      rintro e w4 ⟨a0, a1, a2, a3, a4, a5, a6, a7, rfl, -, hD4, hG4⟩
      have O4 := O3.next hD4 hG4
      obtain ⟨F1, F2, F3⟩ := far_of O4
      have hbw : w.heap.size < w4.heap.size := Nat.lt_of_lt_of_le O4.h1 (Nat.le_of_lt O4.lib.lt)
      have O5 := O4.on (o_alloc w4 (.cells #[.int .i64 a0, .int .i64 a1, .int .i64 a2, .int .i64 a3, .int .i64 a4, .int .i64 a5, .int .i64 a6, .int .i64 a7] 74))
      have K5 := Bk.new w4 74 #[.int .i64 a0, .int .i64 a1, .int .i64 a2, .int .i64 a3, .int .i64 a4, .int .i64 a5, .int .i64 a6, .int .i64 a7]
      have HF := Lib.hid F1
      have hgi : some w4.heap.size ≠ some g := by simp; omega
      clear O3 O4 hD4 hG4 F1
      go_wp2_with fail
      refine (next_any g 6 _ O5.dice (by omega)).mono ?_
      rintro e w6 ⟨x1, rfl, hx1, hD6, hG6⟩
      have K6 := K5.grown hG6 hgi
      have c6 := K6.cell 5
      have f6 := K6.frozen 5
      have O6 := (O5.next hD6 hG6).other hbw F2 F3 HF.out 5 (.int .i64 x1)
      have K7 := K6.store 5 (.int .i64 x1)
      have ht7 : (w6.setCell ⟨w4.heap.size, 5, none⟩ (.int .i64 x1)).heap.size = w6.heap.size := by simp
      clear K5 O5 hD6 hG6
      go_wp2_with fail
      refine (next_any g 200 _ O6.dice (by omega)).mono ?_
      rintro e w8 ⟨x2, rfl, hx2, hD8, hG8⟩
      have e8 := Go.IntWalk.i64_in (x2 - 100) (by omega)
      have K8 := K7.grown hG8 hgi
      have c8 := K8.cell 7
      have f8 := K8.frozen 7
      have O8 := (O6.next hD8 hG8).other hbw F2 F3 HF.out 7 (.int .i64 (x2 - 100))
      have K9 := K8.store 7 (.int .i64 (x2 - 100))
      clear K6 K7 O6 hD8 hG8 c6 f6 ht7
      go_upto_region 15 with fail
      have E9 := Lib.hid K9
      clear K8 K9 c8 f8
      generalize w8.setCell ⟨w4.heap.size, 7, none⟩ (.int .i64 (x2 - 100)) = w9 at *
      have X9 := Lib.hid (O8.on (Below.refl _ _).drew)
      have d9 := (O8.cells Hp.out).2.2.2
      have d9' := (X9.out.cells Hp.out).2.2.2
      have l9 := O8.block.2.1
      have p0 := E9.out.cell 0
      have p1 := E9.out.cell 1
      have p2 := E9.out.cell 2
      have p3 := E9.out.cell 3
      have p4 := E9.out.cell 4
      have p5 := E9.out.cell 5
      have p6 := E9.out.cell 6
      have p7 := E9.out.cell 7
      have pl := E9.out.lt
      simp at p0 p1 p2 p3 p4 p5 p6 p7
      clear O8
      go_region_law (first
        | (refine step_append_F (t := 74) (n := 8) (enc := InstD.vals) rfl (.tmp 86) (.tmp 88) 65 64 _ infoInstance Tryz.underlying65 rfl (by decide) (by decide) rfl w.heap.size (.slice A3 is.length c3) is ⟨a0, a1, a2, a3, a4, x1, a6, x2 - 100⟩ rfl (((X9.out.on (o_alloc _ _)).cw.each k _ Hp.out).i) rfl (instV_one _) w9.drew.heap.size rfl (Bk.new w9.drew _ _) hlen (by have := X9.out.gro.size; simp; omega) ?_; intro v' w30 k1 k2 k3; obtain ⟨Av, cw, hv', -, -⟩ := k1.form; rw [List.length_append, List.length_singleton] at hv'; subst hv'; have LA := X9.out.on (o_alloc w9.drew (.cells #[.int .i64 a0, .int .i64 a1, .int .i64 a2, .int .i64 a3, .int .i64 a4, .int .i64 x1, .int .i64 a6, .int .i64 (x2 - 100)] 74)); have hC := LA.cw.each k _ Hp.out; obtain ⟨d30, f30⟩ := LA.after Hp.out hC.i (by decide) k2 3 _ rfl; have L30 := Lib.hid (LA.grow Hp.out (fun b hb => .inr (.inr hb)) hC.i (by decide) k2 3 (by decide) (.slice Av (is.length + 1) cw) (⟨nm, ss, ls, is ++ [⟨a0, a1, a2, a3, a4, x1, a6, x2 - 100⟩]⟩, ⟨.slice A1 ss.length c1, .slice A2 ls.length c2, .slice Av (is.length + 1) cw⟩) rfl ⟨World.ownsRow.kept hC.s k2 (own_types hC.s hC.i (by decide)), World.ownsRow.kept hC.l k2 (own_types hC.l hC.i (by decide)), k1⟩ k3 (fun b hb => (by rcases hb with h | h | h; exact .inl (.inl h); exact .inl (.inr (.inl h)); exact .inr h))); clear LA hC k1 k2 k3))
      all_goals
        go_wp2_with fail
        go_meet
        have HH := L30.out; refine ⟨_, ?_, ?_, HH⟩; (· simp); exact Lib.hid (sm_set HS.out ⟨(HS.out _ (List.mem_of_getElem? Hp.out)).n, (HS.out _ (List.mem_of_getElem? Hp.out)).l, by first | (simp; omega) | (dsimp only; omega) | omega, by first | (simp; omega) | (dsimp only; omega) | omega, by first | (simp; omega) | (dsimp only; omega) | omega⟩)
    have b3 : (j == 3) = false := by simpa using h3
    by_cases h4 : j = 4
    · subst h4
      have X0 := Lib.hid (O3.on (Below.refl _ _).drew)
      have dm := (O3.cells Hp.out).2.2.1
      have d0 := (X0.out.cells Hp.out).2.2.1
      have l0 := O3.block.2.1
      have hlen : ls.length ≤ 1000000 := by omega
      clear O3
      go_upto_region 17 with fail
      go_region_law (first
        | (refine step_append_F (t := 121) (n := 4) (enc := LabelD.vals) rfl (.tmp 98) (.tmp 112) 64 40 _ infoLabel Tryz.underlying64 rfl (by decide) (by decide) rfl w.heap.size (.slice A2 ls.length c2) ls ⟨x1 - 1, x2 - 45, x3 - 45, nl⟩ rfl (((X4.out.on (o_alloc _ _)).cw.each k _ Hp.out).l) rfl (labelV_one _) w14.heap.size rfl (Bk.new w14 _ _) hlen (by have := X4.out.gro.size; simp; omega) ?_; intro v' w30 k1 k2 k3; obtain ⟨Av, cw, hv', -, -⟩ := k1.form; rw [List.length_append, List.length_singleton] at hv'; subst hv'; have LA := X4.out.on (o_alloc w14 (.cells #[.int .i64 (x1 - 1), .int .i64 (x2 - 45), .int .i64 (x3 - 45), .string nl] 121)); have hC := LA.cw.each k _ Hp.out; obtain ⟨d30, f30⟩ := LA.after Hp.out hC.l (by decide) k2 2 _ rfl; have L30 := Lib.hid (LA.grow Hp.out (fun b hb => .inr (.inl hb)) hC.l (by decide) k2 2 (by decide) (.slice Av (ls.length + 1) cw) (⟨nm, ss, ls ++ [⟨x1 - 1, x2 - 45, x3 - 45, nl⟩], is⟩, ⟨.slice A1 ss.length c1, .slice Av (ls.length + 1) cw, .slice A3 is.length c3⟩) rfl ⟨World.ownsRow.kept hC.s k2 (own_types hC.s hC.l (by decide)), k1, World.ownsRow.kept hC.i k2 (own_types hC.i hC.l (by decide))⟩ k3 (fun b hb => (by rcases hb with h | h | h; exact .inl (.inl h); exact .inr h; exact .inl (.inr (.inr h))))); clear LA hC k1 k2 k3)
        | (go_simp; have _ := hx3; go_at_call 66; ((with_reducible refine (drawName_any g _ X3.out.dice).mono ?_); rintro e w14 ⟨nl, rfl, ⟨-, -, hx4⟩, hD4, hG4⟩; have X4 := Lib.hid (X3.out.next hD4 hG4); have d4 := (X4.out.cells Hp.out).2.2.1; have l4 := X4.out.block.2.1; clear hD4 hG4; (try dsimp only)))
        | (go_simp; have _ := hx2; go_at_call 24; ((with_reducible refine (next_any g 90 _ X2.out.dice (by omega)).mono ?_); rintro e w13 ⟨x3, rfl, hx3, hD3, hG3⟩; have e3 := Go.IntWalk.i64_in (x3 - 45) (by omega); have X3 := Lib.hid (X2.out.next hD3 hG3); have d3 := (X3.out.cells Hp.out).2.2.1; have l3 := X3.out.block.2.1; clear hD3 hG3; (try dsimp only)))
        | (go_simp; have _ := hx1; go_at_call 24; ((with_reducible refine (next_any g 90 _ X1.out.dice (by omega)).mono ?_); rintro e w12 ⟨x2, rfl, hx2, hD2, hG2⟩; have e2 := Go.IntWalk.i64_in (x2 - 45) (by omega); have X2 := Lib.hid (X1.out.next hD2 hG2); have d2 := (X2.out.cells Hp.out).2.2.1; have l2 := X2.out.block.2.1; clear hD2 hG2; (try dsimp only)))
        | (go_simp; go_at_call 24; ((with_reducible refine (next_any g 10 _ X0.out.dice (by omega)).mono ?_); rintro e w11 ⟨x1, rfl, hx1, hD1, hG1⟩; have e1 := Go.IntWalk.i64_in (x1 - 1) (by omega); have X1 := Lib.hid (X0.out.next hD1 hG1); have d1 := (X1.out.cells Hp.out).2.2.1; have l1 := X1.out.block.2.1; clear hD1 hG1; (try dsimp only)))
        )
      all_goals
        go_wp2_with fail
        go_meet
        have HH := L30.out; refine ⟨_, ?_, ?_, HH⟩; (· simp); exact Lib.hid (sm_set HS.out ⟨(HS.out _ (List.mem_of_getElem? Hp.out)).n, mem_snoc' (HS.out _ (List.mem_of_getElem? Hp.out)).l (by first | (simp; omega) | (dsimp only; omega) | omega), by first | (simp; omega) | (dsimp only; omega) | omega, by first | (simp; omega) | (dsimp only; omega) | omega, by first | (simp; omega) | (dsimp only; omega) | omega⟩)
    have b4 : (j == 4) = false := by simpa using h4
    by_cases h5 : j = 5
    · subst h5
      go_wp2
      go_loopw [7] (fun iv wx => ∃ (i : Nat) (tt : List ShapeD) (uT : Value), i ≤ 25 ∧ iv = .int .i64 i ∧ tt.length ≤ 3 + i ∧ DO w wx g w1.heap.size (.slice (some ⟨q, 0, none⟩) ps.length c) (ps.set k (⟨nm, tt, ls, is⟩, ⟨uT, .slice A2 ls.length c2, .slice A3 is.length c3⟩))) (fun iv _ => 25 - (intOf iv).toNat)
      case atStart => exact ⟨0, ss, _, by omega, rfl, by omega, by rw [set_same Hp.out]; exact O3⟩
      case round =>
        obtain ⟨i, tt, uT, hi, rfl, htl, L⟩ := hrel
        clear O3
        obtain ⟨HP, -⟩ : Hid ((ps.set k (⟨nm, tt, ls, is⟩, ⟨uT, .slice A2 ls.length c2, .slice A3 is.length c3⟩))[k]? = some (⟨nm, tt, ls, is⟩, ⟨uT, .slice A2 ls.length c2, .slice A3 is.length c3⟩)) ∧ True := ⟨Lib.hid (List.getElem?_set_self hk), trivial⟩
        by_cases hlt : i < 25
        · have hlti : (i : Int) < 25 := by omega
          obtain ⟨A4, c4, e4, -, -⟩ := (L.cw.each k _ HP.out).s.form
          dsimp only at e4
          subst e4
          have HL := Lib.hid (L.on (Below.refl _ _).drew)
          have d0 := (L.cells HP.out).2.1
          have d1 := (HL.out.cells HP.out).2.1
          have dl := L.block.2.1
          have hlen : tt.length ≤ 1000000 := by omega
          clear L
          go_upto_region 22 with fail
          go_region_law (first
            | (go_simp; go_at_call 67; ((with_reducible refine (drawShape_any g _ HL.out.dice).mono ?_); rintro e w6 ⟨l, x0, y0, x1, y1, rfl, -, hD6, hG6⟩; have L6 := Lib.hid (HL.out.next hD6 hG6); have d6 := (L6.out.cells HP.out).2.1; have l6 := L6.out.block.2.1; clear hD6 hG6; (try dsimp only)))
            | (refine step_append_F (t := 70) (n := 5) (enc := ShapeD.vals) rfl (.tmp 126) (.tmp 129) 46 40 _ infoShape Tryz.underlying46 rfl (by decide) (by decide) rfl w.heap.size (.slice A4 tt.length c4) tt ⟨l, ⟨x0, y0, x1, y1⟩⟩ rfl (((L6.out.on (o_alloc _ _)).cw.each k _ HP.out).s) rfl (shapeV_one _) w6.heap.size rfl (Bk.new w6 _ _) hlen (by have := L6.out.gro.size; simp; omega) ?_; intro v' w30 k1 k2 k3; obtain ⟨Av, cw, hv', -, -⟩ := k1.form; rw [List.length_append, List.length_singleton] at hv'; subst hv'; have LA := L6.out.on (o_alloc w6 (.cells #[.int .i64 l, .int .i64 x0, .int .i64 y0, .int .i64 x1, .int .i64 y1] 70)); have hC := LA.cw.each k _ HP.out; obtain ⟨d30, f30⟩ := LA.after HP.out hC.s (by decide) k2 1 _ rfl; have L30 := Lib.hid (LA.grow HP.out (fun b hb => .inl hb) hC.s (by decide) k2 1 (by decide) (.slice Av (tt.length + 1) cw) (⟨nm, tt ++ [⟨l, ⟨x0, y0, x1, y1⟩⟩], ls, is⟩, ⟨.slice Av (tt.length + 1) cw, .slice A2 ls.length c2, .slice A3 is.length c3⟩) rfl ⟨k1, World.ownsRow.kept hC.l k2 (own_types hC.l hC.s (by decide)), World.ownsRow.kept hC.i k2 (own_types hC.i hC.s (by decide))⟩ k3 (fun b hb => (by rcases hb with h | h | h; exact .inr h; exact .inl (.inr (.inl h)); exact .inl (.inr (.inr h))))); clear LA hC k1 k2 k3))
          all_goals
            go_wp2
            have h30 := L30.out
            rw [List.set_set] at h30
            exact ⟨⟨i + 1, tt ++ [⟨l, ⟨x0, y0, x1, y1⟩⟩], _, by omega, by go_num, by simp; omega, h30⟩, by simp [intOf]; omega⟩
        · obtain rfl : i = 25 := by omega
          go_wp2_with fail
          go_meet
          have HH := L; refine ⟨_, ?_, ?_, HH⟩; (· simp); exact Lib.hid (sm_set HS.out ⟨(HS.out _ (List.mem_of_getElem? Hp.out)).n, (HS.out _ (List.mem_of_getElem? Hp.out)).l, by first | (simp; omega) | (dsimp only; omega) | omega, by first | (simp; omega) | (dsimp only; omega) | omega, by first | (simp; omega) | (dsimp only; omega) | omega⟩)
    have b5 : (j == 5) = false := by simpa using h5
    go_wp2_with fail
    go_meet
    exact ⟨ps, rfl, HS, O3⟩
  obtain ⟨qs, hql, HQ, O⟩ := hcut
  obtain ⟨w40, rfl⟩ : ∃ W : World, W = wc := ⟨_, rfl⟩
  have z0 := O.lib.cell 0
  have r0 := O.res.cell 0
  have fr := O.res.frozen
  have DG := Lib.hid (dg_set ⟨O.dice, O.gro⟩ hg (Nat.le_refl _) 0 (.slice (some ⟨q, 0, none⟩) ps.length c))
  have CW2 := Lib.hid (O.cw.kept (grownBy_put w40 w.heap.size 0 (.slice (some ⟨q, 0, none⟩) ps.length c)) (own_otherT O.cw.own O.res (by decide)) (fun p hp b hpb => (by obtain ⟨k, hk⟩ := List.getElem?_of_mem hp; exact (O.cw.each k p hk).other O.res (by decide) b hpb)))
  clear O O3
  go_wp2
  refine bodyPost_ret (v := .agg #[.slice (some ⟨q, 0, none⟩) ps.length c]) (by simp [results, Tryz.results42, go_sem, *]) rfl ?_
  exact ⟨_, qs, rfl, by rw [hql]; exact ⟨hn1, hn4⟩, HQ.out, CW2.out, DG.out.1, DG.out.2⟩

end Go.Proofs.YtgegbgkokkdmpaaGreat
