/- The walk of the law FnRuns, over drawn inputs: it answers true. No conditions. -/
import Derived.Test.YtooglkdloaaomaaCellK
import Derived.Test.YtooglkdloaaomaaDrawE
import Derived.Deep.CutRange
namespace Go.Proofs.Ytooglkdloaaomaa
open Go.RowKit

theorem runs_facts {rs : List Rc} (h : isReg rs = true) (vert : Bool) : okAll (runsV vert rs) = true ∧ sumA (runsV vert rs) = countG (cellsG rs) ∧ ((runsV vert rs).length = 0 ↔ rs.length = 0) ∧ (∀ r ∈ runsV vert rs, rtV rs r.x0 r.y0 vert = some r) ∧ (runsV vert rs).length ≤ 6400 := by
  rw [runsV_yes h]
  refine ⟨runsG_ok _ _, sum_runs _ _, reg_nil h vert, fun r hr => ?_, runsG_length _ _⟩
  obtain ⟨h1, h2⟩ := run_first hr
  rw [rtV_yes h h1, h2]

/-- The dice and the rest of memory since a world. -/
def HeldL (w9 : World) (g : Nat) (w' : World) : Prop := DiceL w' g ∧ w9.grownBy w' (some g)
theorem HeldL.alloc {w9 w' : World} {g : Nat} (h : HeldL w9 g w') (o : Obj) : HeldL w9 g (w'.alloc o) := ⟨h.1.alloc o, only_alloc h.2 o⟩
theorem HeldL.drew {w9 w' : World} {g : Nat} (h : HeldL w9 g w') : HeldL w9 g w'.drew := ⟨h.1.drew, only_drew h.2⟩
theorem HeldL.setCell {w9 w' : World} {g : Nat} (h : HeldL w9 g w') {p : Addr} (hg : g < w9.heap.size) (hp : w9.heap.size ≤ p.block) (u : Value) : HeldL w9 g (w'.setCell p u) :=
  ⟨h.1.other (by omega) u, only_above h.2 ((Below.refl w9.heap.size w').setCell hp u)⟩
theorem HeldL.fin {w9 w' : World} {g : Nat} (h : HeldL w9 g w') : w9.grownBy w' (some g) := h.2
theorem below_held (w9 : World) (g : Nat) (n : Int) (w : World) (h : HeldL w9 g w) (hn : 1 ≤ n ∧ n ≤ 1000000) : Calls Try.prog 35 #[.pointer (some ⟨g, 0, none⟩), .int .i64 n] w fun e w' => ∃ k : Int, e = .returned (.int .i64 k) ∧ (0 ≤ k ∧ k < n) ∧ HeldL w9 g w' ∧ w.grownBy w' (some g) := by
  refine (below_any g n w h.1 hn).mono ?_
  rintro e w' ⟨k, rfl, hk, hD, hG⟩
  exact ⟨k, rfl, hk, ⟨hD, only_trans h.2 hG⟩, hG⟩
theorem ne_some {a b : Nat} (h : b < a) : some a ≠ some b := fun e => by
  injection e with e
  omega
theorem below_pick (w9 : World) (g : Nat) (L : List Rc) (w : World) (h : HeldL w9 g w) (hn : 1 ≤ (L.length : Int) ∧ (L.length : Int) ≤ 1000000) : Calls Try.prog 35 #[.pointer (some ⟨g, 0, none⟩), .int .i64 (L.length : Int)] w fun e w' => ∃ (m : Nat) (x0 y0 x1 y1 : Int), e = .returned (.int .i64 (m : Int)) ∧ L[m]? = some ⟨x0, y0, x1, y1⟩ ∧ (0 ≤ (m : Int) ∧ (m : Int) < (L.length : Int)) ∧ HeldL w9 g w' ∧ w.grownBy w' (some g) := by
  refine (below_held w9 g _ w h hn).mono ?_
  rintro e w' ⟨k, rfl, hk, hB, hG⟩
  obtain ⟨m, rfl⟩ : ∃ m : Nat, k = m := ⟨k.toNat, by omega⟩
  have hm : m < L.length := by omega
  exact ⟨m, _, _, _, _, rfl, List.getElem?_eq_getElem hm, hk, hB, hG⟩
/-- Four integers in a block. -/
structure C4 (w : World) (b : Nat) (a0 a1 a2 a3 : Int) : Prop where
  c0 : w.cell? ⟨b, 0, none⟩ = some (.int .i64 a0)
  c1 : w.cell? ⟨b, 1, none⟩ = some (.int .i64 a1)
  c2 : w.cell? ⟨b, 2, none⟩ = some (.int .i64 a2)
  c3 : w.cell? ⟨b, 3, none⟩ = some (.int .i64 a3)
theorem C4.lt {w : World} {b : Nat} {a0 a1 a2 a3 : Int} (h : C4 w b a0 a1 a2 a3) : b < w.heap.size := World.block_lt_of_cell? _ _ h.c0
theorem C4.on {w w' : World} {b : Nat} {a0 a1 a2 a3 : Int} (h : C4 w b a0 a1 a2 a3) (hb : Below w.heap.size w w') : C4 w' b a0 a1 a2 a3 :=
  ⟨(hb.cell (p := ⟨b, 0, none⟩) h.lt).trans h.c0, (hb.cell (p := ⟨b, 1, none⟩) h.lt).trans h.c1, (hb.cell (p := ⟨b, 2, none⟩) h.lt).trans h.c2, (hb.cell (p := ⟨b, 3, none⟩) h.lt).trans h.c3⟩
theorem C4.alloc {w : World} {b : Nat} {a0 a1 a2 a3 : Int} (h : C4 w b a0 a1 a2 a3) (o : Obj) : C4 (w.alloc o) b a0 a1 a2 a3 := h.on ((Below.refl _ _).alloc (Nat.le_refl _) o)
theorem C4.cells {w : World} {b : Nat} {a0 a1 a2 a3 : Int} (h : C4 w b a0 a1 a2 a3) : w.cell? ⟨b, 0, none⟩ = some (.int .i64 a0) ∧ w.cell? ⟨b, 1, none⟩ = some (.int .i64 a1) ∧ w.cell? ⟨b, 2, none⟩ = some (.int .i64 a2) ∧ w.cell? ⟨b, 3, none⟩ = some (.int .i64 a3) := ⟨h.c0, h.c1, h.c2, h.c3⟩

set_option maxHeartbeats 6400000 in
set_option maxRecDepth 100000 in
/-- FnRuns answers true. -/
theorem lawFnRuns (A : Option Addr) (n c : Nat) (w : World) (hA : ArgB w A n) (hm : n ≤ maxLen) : Calls Try.prog 6 #[.slice A n c] w fun e w' => e = .returned (.bool true) ∧ Below w.heap.size w w' := by
  go_enter Try.func6, Try.ntmps6
  go_wp2_with fail
  refine (big_any A n c w hm).mono ?_
  rintro e w0 ⟨rfl, rfl⟩
  by_cases h4 : 4096 < n
  · rw [decide_eq_true h4]
    go_wp2
    go_ret
    exact ⟨rfl, Below.refl _ _⟩
  · rw [decide_eq_false h4]
    go_wp2_with fail
    refine (roll_any A n c 1701 _ hA (by omega) (by omega)).mono ?_
    rintro e w1 ⟨g, rfl, hg, hD, hb1⟩
    have hA1 := hA.on hb1
    go_wp2_with fail
    refine (drawRuns_any A n c _ hA1 (by omega)).mono ?_
    rintro e w2 ⟨v, rs, rfl, hR, hl, hb2⟩
    have hgl := hD.lt
    replace hR := hR.less (show g + 1 ≤ w1.heap.size by omega)
    replace hD := hD.on hb2
    replace hb2 := hb1.trans (hb2.mono hb1.size)
    clear hA h4 hA1 hb1
    obtain ⟨A1, c1, rfl, hc1, hm1, -⟩ := hR.form
    have hgl2 := hD.lt
    have Hno := Lib.hid (fun (h : isReg rs = false) (vert : Bool) => runsV_no (vert := vert) h)
    have Hyes := Lib.hid (fun (h : isReg rs = true) (vert : Bool) => runs_facts h vert)
    go_wp2_with fail
    refine (hruns_impl _ rs _ (hR.less (Nat.zero_le _))).mono ?_
    rintro e w3 ⟨u, rfl, hH, hb3⟩
    replace hH := hH.less (show g + 1 ≤ w2.heap.size by omega)
    have hR3 := hR.on hb3
    have hD3 := hD.on hb3
    replace hb3 := hb2.trans (hb3.mono hb2.size)
    have hgl3 := hD3.lt
    clear hR hD hb2
    go_wp2_with fail
    refine (vruns_impl _ rs _ (hR3.less (Nat.zero_le _))).mono ?_
    rintro e w4 ⟨u4, rfl, hV, hb4⟩
    replace hV := hV.less (show g + 1 ≤ w3.heap.size by omega)
    have hR4 := hR3.on hb4
    have hD4 := hD3.on hb4
    have hH4 := hH.on hb4
    replace hb4 := hb3.trans (hb4.mono hb3.size)
    clear hR3 hD3 hH hb3
    by_cases hreg : isReg rs = true
    · obtain ⟨a1, a2, a3, a4, a5⟩ := Hyes.out hreg false
      obtain ⟨b1, b2, b3, b4, b5⟩ := Hyes.out hreg true
      have Hreg := Lib.hid hreg
      have hcb := count_bounds (cellsG rs)
      clear hreg Hno Hyes
      generalize runsV false rs = hs at *
      generalize runsV true rs = vs at *
      have A1' := Lib.hid a1
      have A2' := Lib.hid a2
      have A4' := Lib.hid a4
      have B1' := Lib.hid b1
      have B2' := Lib.hid b2
      have B4' := Lib.hid b4
      clear a1 a2 a4 b1 b2 b4
      generalize hcn : countG (cellsG rs) = cn at *
      have Hcn := Lib.hid hcn
      clear hcn
      obtain ⟨A2, c2, rfl, hc2, hm2, -⟩ := hH4.form
      obtain ⟨A3, c3, rfl, hc3, hm3, -⟩ := hV.form
      go_wp2_with fail
      refine (isReg_spec _ rs _ (hR4.less (Nat.zero_le _))).mono ?_
      rintro e w5 ⟨rfl, hb5⟩
      rw [Hreg.out]
      have hR5 := hR4.on hb5
      have hD5 := hD4.on hb5
      have hH5 := hH4.on hb5
      have hV5 := hV.on hb5
      replace hb5 := hb4.trans (hb5.mono hb4.size)
      clear hR4 hD4 hH4 hV hb4
      go_wp2
      go_loopw [7, 9] (fun sv iv wr => ∃ k : Nat, k ≤ hs.length ∧ iv = .int .i64 k ∧ sv = .int .i64 (sumA (hs.take k)) ∧ DiceL wr g ∧ RL wr (g + 1) (.slice A1 rs.length c1) rs ∧ RL wr (g + 1) (.slice A2 hs.length c2) hs ∧ RL wr (g + 1) (.slice A3 vs.length c3) vs ∧ Below w.heap.size w wr) (fun _ iv _ => hs.length - (intOf iv).toNat)
      case atStart => exact ⟨0, Nat.zero_le _, rfl, rfl, hD5, hR5, hH5, hV5, hb5⟩
      case round =>
        obtain ⟨k, hk, rfl, rfl, hDr, hRr, hHr, hVr, hbr⟩ := hrel
        clear hD5 hR5 hH5 hV5 hb5
        by_cases hlt : k < hs.length
        · obtain ⟨ga, x0, y0, x1, y1, rfl, hr, hga, f0, f1, f2, f3⟩ := hHr.elem hlt
          have Hst := Lib.hid (sumA_take_succ hr)
          have hrok := okAll_get A1'.out hr
          have hab := areaR_bounds hrok
          have hsb := sumA_bounds (show (hs.take k).all okRc = true from okAll_take A1'.out k)
          have hlk : (hs.take k).length ≤ 6400 := Nat.le_trans (List.length_take_le' _ _) a5
          have hL := fun w0 : World => long_any ⟨x0, y0, x1, y1⟩ hrok w0
          generalize areaR ⟨x0, y0, x1, y1⟩ = q at *
          generalize sumA (hs.take k) = sm at *
          have es := Go.IntWalk.i64_in (sm + q) (by omega)
          clear hr hrok hab hsb
          go_wp2_with fail
          refine (hL _).mono ?_
          rintro e w6 ⟨rfl, hb6⟩
          have hDz := hDr.on hb6
          have hRz := hRr.on hb6
          have hHz := hHr.on hb6
          have hVz := hVr.on hb6
          replace hb6 := hbr.trans (hb6.mono hbr.size)
          clear hDr hRr hHr hVr hbr f0 f1 f2 f3
          go_wp2
          exact ⟨⟨k + 1, by omega, by go_num, by rw [Hst.out], hDz, hRz, hHz, hVz, hb6⟩, by simp [intOf]; omega⟩
        · have hke : k = hs.length := by omega
          subst hke
          rw [List.take_length]
          have E2 := A2'.out
          rw [E2]
          clear E2
          go_wp2
          go_loopw [8, 10] (fun sv iv wr => ∃ k : Nat, k ≤ vs.length ∧ iv = .int .i64 k ∧ sv = .int .i64 (sumA (vs.take k)) ∧ DiceL wr g ∧ RL wr (g + 1) (.slice A1 rs.length c1) rs ∧ RL wr (g + 1) (.slice A2 hs.length c2) hs ∧ RL wr (g + 1) (.slice A3 vs.length c3) vs ∧ Below w.heap.size w wr) (fun _ iv _ => vs.length - (intOf iv).toNat)
          case atStart => exact ⟨0, Nat.zero_le _, rfl, rfl, hDr, hRr, hHr, hVr, hbr⟩
          case round =>
            obtain ⟨k, hk, rfl, rfl, hD8, hR8, hH8, hV8, hb8⟩ := hrel
            clear hDr hRr hHr hVr hbr
            by_cases hlt : k < vs.length
            · obtain ⟨ga, x0, y0, x1, y1, rfl, hr, hga, f0, f1, f2, f3⟩ := hV8.elem hlt
              have Hst := Lib.hid (sumA_take_succ hr)
              have hrok := okAll_get B1'.out hr
              have hab := areaR_bounds hrok
              have hsb := sumA_bounds (show (vs.take k).all okRc = true from okAll_take B1'.out k)
              have hlk : (vs.take k).length ≤ 6400 := Nat.le_trans (List.length_take_le' _ _) b5
              have hL := fun w0 : World => long_any ⟨x0, y0, x1, y1⟩ hrok w0
              generalize areaR ⟨x0, y0, x1, y1⟩ = q at *
              generalize sumA (vs.take k) = sm at *
              have es := Go.IntWalk.i64_in (sm + q) (by omega)
              clear hr hrok hab hsb
              go_wp2_with fail
              refine (hL _).mono ?_
              rintro e w9 ⟨rfl, hb9⟩
              have hDz := hD8.on hb9
              have hRz := hR8.on hb9
              have hHz := hH8.on hb9
              have hVz := hV8.on hb9
              replace hb9 := hb8.trans (hb9.mono hb8.size)
              clear hD8 hR8 hH8 hV8 hb8 f0 f1 f2 f3
              go_wp2
              exact ⟨⟨k + 1, by omega, by go_num, by rw [Hst.out], hDz, hRz, hHz, hVz, hb9⟩, by simp [intOf]; omega⟩
            · have hke : k = vs.length := by omega
              subst hke
              rw [List.take_length]
              have E2 := B2'.out
              rw [E2]
              clear E2
              go_wp2_with fail
              refine (regArea_spec _ rs _ (hR8.less (Nat.zero_le _)) Hreg.out).mono ?_
              rintro e w9 ⟨rfl, hb9⟩
              rw [Hcn.out]
              have hD9 := hD8.on hb9
              have hR9 := hR8.on hb9
              have hH9 := hH8.on hb9
              have hV9 := hV8.on hb9
              replace hb9 := hb8.trans (hb9.mono hb8.size)
              clear hD8 hR8 hH8 hV8 hb8
              by_cases h0 : rs.length = 0
              · have q1 : ((hs.length : Nat) : Int) = 0 := by have := a3.2 h0; omega
                have q2 : ((vs.length : Nat) : Int) = 0 := by have := b3.2 h0; omega
                have q3 : ((rs.length : Nat) : Int) = 0 := by omega
                go_wp2
                go_ret
                exact ⟨by first | rfl | (refine ret_bool ?_; simp; omega), hb9⟩
              · have p1 : hs.length ≠ 0 := fun e => h0 (a3.1 e)
                have p2 : vs.length ≠ 0 := fun e => h0 (b3.1 e)
                have q1 : ((hs.length : Nat) : Int) ≠ 0 := by omega
                have q2 : ((vs.length : Nat) : Int) ≠ 0 := by omega
                have q1b : (((hs.length : Nat) : Int) == 0) = false := by simpa using p1
                have q2b : (((vs.length : Nat) : Int) == 0) = false := by simpa using p2
                clear a3 b3
                go_upto_region 21 with fail
                go_cut [11, 12] from 88 to 101 (fun s11 s12 wx => ∃ (b1 b2 : Nat) (x y : Rc), s11 = .pointer (some ⟨b1, 0, none⟩) ∧ s12 = .pointer (some ⟨b2, 0, none⟩) ∧ C4 wx b1 x.x0 x.y0 x.x1 x.y1 ∧ C4 wx b2 y.x0 y.y0 y.x1 y.y1 ∧ x ∈ hs ∧ y ∈ vs ∧ RL wx 0 (.slice A1 rs.length c1) rs ∧ Below w.heap.size w wx)
                case first =>
                  obtain ⟨gh, _, _, _, _, rfl, _, hgh, _⟩ := hH9.elem (k := 0) (by omega)
                  obtain ⟨gv, _, _, _, _, rfl, _, hgv, _⟩ := hV9.elem (k := 0) (by omega)
                  have hbh := hH9.base.1
                  have hbv := hV9.base.1
                  have hg9 := hD9.lt
                  have hV0 : HeldL w9 g w9.drew := HeldL.drew ⟨hD9, only_refl _ _⟩
                  have hV1 : HeldL w9 g (w9.alloc (.cells #[.int .i64 0, .int .i64 0, .int .i64 0, .int .i64 0] 32)).drew := (HeldL.alloc ⟨hD9, only_refl _ _⟩ _).drew
                  have hV2 : HeldL w9 g ((w9.alloc (.cells #[.int .i64 0, .int .i64 0, .int .i64 0, .int .i64 0] 32)).alloc (.cells #[.int .i64 0, .int .i64 0, .int .i64 0, .int .i64 0] 32)).drew := ((HeldL.alloc ⟨hD9, only_refl _ _⟩ _).alloc _).drew
                  have zA1 := (Bk.new w9 32 #[.int .i64 0, .int .i64 0, .int .i64 0, .int .i64 0]).drew
                  have zA2 := ((Bk.new w9 32 #[.int .i64 0, .int .i64 0, .int .i64 0, .int .i64 0]).alloc (.cells #[.int .i64 0, .int .i64 0, .int .i64 0, .int .i64 0] 32)).drew
                  have zB2 := (Bk.new (w9.alloc (.cells #[.int .i64 0, .int .i64 0, .int .i64 0, .int .i64 0] 32)) 32 #[.int .i64 0, .int .i64 0, .int .i64 0, .int .i64 0]).drew
                  have eA : (w9.alloc (.cells #[.int .i64 0, .int .i64 0, .int .i64 0, .int .i64 0] 32)).heap.size = w9.heap.size + 1 := by simp
                  rw [eA] at zB2
                  have t1 : ∀ wz : World, HeldL w9 g wz → (∀ j : Nat, wz.cell? ⟨gh, j, none⟩ = w9.cell? ⟨gh, j, none⟩) ∧ (∀ j : Nat, wz.cell? ⟨gv, j, none⟩ = w9.cell? ⟨gv, j, none⟩) := fun wz h => ⟨fun j => World.cell?_of_block (w := w9) (h.2.block gh hgh (by simp; omega)), fun j => World.cell?_of_block (w := w9) (h.2.block gv hgv (by simp; omega))⟩
                  have hn1 : (1 : Int) ≤ (hs.length : Int) ∧ (hs.length : Int) ≤ 1000000 := by omega
                  have hn2 : (1 : Int) ≤ (vs.length : Int) ∧ (vs.length : Int) ≤ 1000000 := by omega
                  have ng0 : some w9.heap.size ≠ some g := by simp; omega
                  have ng1 : some (w9.heap.size + 1) ≠ some g := by simp; omega
                  clear eA
                  have hca0 := below_pick w9 g hs _ hV0 hn1
                  have hca1 := below_pick w9 g hs _ hV1 hn1
                  have hca2 := below_pick w9 g hs _ hV2 hn1
                  go_region_held3 (fun w' => (∀ j : Nat, w'.cell? ⟨gh, j, none⟩ = w9.cell? ⟨gh, j, none⟩) ∧ (∀ j : Nat, w'.cell? ⟨gv, j, none⟩ = w9.cell? ⟨gv, j, none⟩))
                    (first | (refine t1 _ ?_; (repeat' (first | with_reducible exact hB5 | with_reducible exact hB4 | with_reducible exact hV0 | with_reducible exact hV1 | with_reducible exact hV2 | with_reducible refine HeldL.alloc ?_ _ | with_reducible refine HeldL.setCell ?_ hg9 ?_ _)) <;> first | omega | (simp; done) | (simp; omega)))
                    (first
                      | (go_at_call 35; (with_reducible refine hca0.mono ?_); rintro e w4 ⟨m4, x0, y0, x1, y1, rfl, hx, hm4, hB4, hG4⟩; obtain ⟨f0, f1, f2, f3⟩ := hH9.four hx; have s4 := hB4.2.size; have hcb0 := below_pick w9 g vs w4 hB4 hn2; have hcb1 := below_pick w9 g vs _ (hB4.alloc (.cells #[.int .i64 0, .int .i64 0, .int .i64 0, .int .i64 0] 32)) hn2; have hcb2 := below_pick w9 g vs _ ((hB4.alloc (.cells #[.int .i64 0, .int .i64 0, .int .i64 0, .int .i64 0] 32)).alloc (.cells #[.int .i64 0, .int .i64 0, .int .i64 0, .int .i64 0] 32)) hn2; have ng4 := ne_some (a := w4.heap.size) (b := g) (by omega); have ng5 := ne_some (a := w4.heap.size + 1) (b := g) (by omega))
                      | (go_at_call 35; (with_reducible refine hca1.mono ?_); rintro e w4 ⟨m4, x0, y0, x1, y1, rfl, hx, hm4, hB4, hG4⟩; obtain ⟨f0, f1, f2, f3⟩ := hH9.four hx; have s4 := hB4.2.size; have hcb0 := below_pick w9 g vs w4 hB4 hn2; have hcb1 := below_pick w9 g vs _ (hB4.alloc (.cells #[.int .i64 0, .int .i64 0, .int .i64 0, .int .i64 0] 32)) hn2; have hcb2 := below_pick w9 g vs _ ((hB4.alloc (.cells #[.int .i64 0, .int .i64 0, .int .i64 0, .int .i64 0] 32)).alloc (.cells #[.int .i64 0, .int .i64 0, .int .i64 0, .int .i64 0] 32)) hn2; have zA := zA1.grown hG4 ng0; have la4 := zA.lt; have na4 : w9.heap.size ≠ w4.heap.size := (by omega); have na4' : w4.heap.size ≠ w9.heap.size := (by omega); have ng4 := ne_some (a := w4.heap.size) (b := g) (by omega); have ng5 := ne_some (a := w4.heap.size + 1) (b := g) (by omega))
                      | (go_at_call 35; (with_reducible refine hca2.mono ?_); rintro e w4 ⟨m4, x0, y0, x1, y1, rfl, hx, hm4, hB4, hG4⟩; obtain ⟨f0, f1, f2, f3⟩ := hH9.four hx; have s4 := hB4.2.size; have hcb0 := below_pick w9 g vs w4 hB4 hn2; have hcb1 := below_pick w9 g vs _ (hB4.alloc (.cells #[.int .i64 0, .int .i64 0, .int .i64 0, .int .i64 0] 32)) hn2; have hcb2 := below_pick w9 g vs _ ((hB4.alloc (.cells #[.int .i64 0, .int .i64 0, .int .i64 0, .int .i64 0] 32)).alloc (.cells #[.int .i64 0, .int .i64 0, .int .i64 0, .int .i64 0] 32)) hn2; have zA := zA2.grown hG4 ng0; have la4 := zA.lt; have na4 : w9.heap.size ≠ w4.heap.size := (by omega); have na4' : w4.heap.size ≠ w9.heap.size := (by omega); have zB := zB2.grown hG4 ng1; have ng4 := ne_some (a := w4.heap.size) (b := g) (by omega); have ng5 := ne_some (a := w4.heap.size + 1) (b := g) (by omega))
                      | (go_at_call 35; (with_reducible refine hcb0.mono ?_); rintro e w5 ⟨m5, u0, v0, u1, v1, rfl, hy, hm5, hB5, hG5⟩; obtain ⟨e0, e1, e2, e3⟩ := hV9.four hy; have s5 := hB5.2.size; have s45 := hG5.size; (try simp at s45); (try (have zA := (zA).grown hG5 ng0; obtain ⟨qa0, qa1, qa2, qa3⟩ := box4 zA; have fa0 := zA.frozen 0; have fa1 := zA.frozen 1; have fa2 := zA.frozen 2; have fa3 := zA.frozen 3; have zA_ := zA.alloc (.cells #[.int .i64 0, .int .i64 0, .int .i64 0, .int .i64 0] 32); obtain ⟨qA0, qA1, qA2, qA3⟩ := box4 zA_; have fA0 := zA_.frozen 0; have fA1 := zA_.frozen 1; have fA2 := zA_.frozen 2; have fA3 := zA_.frozen 3; have la5 := zA.lt; have na5 : w9.heap.size ≠ w5.heap.size := (by omega); have na5' : w5.heap.size ≠ w9.heap.size := (by omega))); (try (have zB := (zB).grown hG5 ng1; obtain ⟨qb0, qb1, qb2, qb3⟩ := box4 zB; have fb0 := zB.frozen 0; have fb1 := zB.frozen 1; have fb2 := zB.frozen 2; have fb3 := zB.frozen 3)))
                      | (go_at_call 35; (with_reducible refine hcb1.mono ?_); rintro e w5 ⟨m5, u0, v0, u1, v1, rfl, hy, hm5, hB5, hG5⟩; obtain ⟨e0, e1, e2, e3⟩ := hV9.four hy; have s5 := hB5.2.size; have s45 := hG5.size; (try simp at s45); (try (have zA := ((zA.alloc (.cells #[.int .i64 0, .int .i64 0, .int .i64 0, .int .i64 0] 32))).grown hG5 ng0; obtain ⟨qa0, qa1, qa2, qa3⟩ := box4 zA; have fa0 := zA.frozen 0; have fa1 := zA.frozen 1; have fa2 := zA.frozen 2; have fa3 := zA.frozen 3; have zA_ := zA.alloc (.cells #[.int .i64 0, .int .i64 0, .int .i64 0, .int .i64 0] 32); obtain ⟨qA0, qA1, qA2, qA3⟩ := box4 zA_; have fA0 := zA_.frozen 0; have fA1 := zA_.frozen 1; have fA2 := zA_.frozen 2; have fA3 := zA_.frozen 3; have la5 := zA.lt; have na5 : w9.heap.size ≠ w5.heap.size := (by omega); have na5' : w5.heap.size ≠ w9.heap.size := (by omega))); (try (have zB := ((zB.alloc (.cells #[.int .i64 0, .int .i64 0, .int .i64 0, .int .i64 0] 32))).grown hG5 ng1; obtain ⟨qb0, qb1, qb2, qb3⟩ := box4 zB; have fb0 := zB.frozen 0; have fb1 := zB.frozen 1; have fb2 := zB.frozen 2; have fb3 := zB.frozen 3)); have zC := ((Bk.new w4 32 #[.int .i64 0, .int .i64 0, .int .i64 0, .int .i64 0])).grown hG5 ng4; obtain ⟨qc0, qc1, qc2, qc3⟩ := box4 zC; have fc0 := zC.frozen 0; have fc1 := zC.frozen 1; have fc2 := zC.frozen 2; have fc3 := zC.frozen 3; have zC_ := zC.alloc (.cells #[.int .i64 0, .int .i64 0, .int .i64 0, .int .i64 0] 32); obtain ⟨qC0, qC1, qC2, qC3⟩ := box4 zC_; have fC0 := zC_.frozen 0; have fC1 := zC_.frozen 1; have fC2 := zC_.frozen 2; have fC3 := zC_.frozen 3; have lc5 := zC.lt; have nc5 : w4.heap.size ≠ w5.heap.size := (by omega); have nc5' : w5.heap.size ≠ w4.heap.size := (by omega))
                      | (go_at_call 35; (with_reducible refine hcb2.mono ?_); rintro e w5 ⟨m5, u0, v0, u1, v1, rfl, hy, hm5, hB5, hG5⟩; obtain ⟨e0, e1, e2, e3⟩ := hV9.four hy; have s5 := hB5.2.size; have s45 := hG5.size; (try simp at s45); (try (have zA := (((zA.alloc (.cells #[.int .i64 0, .int .i64 0, .int .i64 0, .int .i64 0] 32)).alloc (.cells #[.int .i64 0, .int .i64 0, .int .i64 0, .int .i64 0] 32))).grown hG5 ng0; obtain ⟨qa0, qa1, qa2, qa3⟩ := box4 zA; have fa0 := zA.frozen 0; have fa1 := zA.frozen 1; have fa2 := zA.frozen 2; have fa3 := zA.frozen 3; have zA_ := zA.alloc (.cells #[.int .i64 0, .int .i64 0, .int .i64 0, .int .i64 0] 32); obtain ⟨qA0, qA1, qA2, qA3⟩ := box4 zA_; have fA0 := zA_.frozen 0; have fA1 := zA_.frozen 1; have fA2 := zA_.frozen 2; have fA3 := zA_.frozen 3; have la5 := zA.lt; have na5 : w9.heap.size ≠ w5.heap.size := (by omega); have na5' : w5.heap.size ≠ w9.heap.size := (by omega))); (try (have zB := (((zB.alloc (.cells #[.int .i64 0, .int .i64 0, .int .i64 0, .int .i64 0] 32)).alloc (.cells #[.int .i64 0, .int .i64 0, .int .i64 0, .int .i64 0] 32))).grown hG5 ng1; obtain ⟨qb0, qb1, qb2, qb3⟩ := box4 zB; have fb0 := zB.frozen 0; have fb1 := zB.frozen 1; have fb2 := zB.frozen 2; have fb3 := zB.frozen 3)); have zC := ((Bk.new w4 32 #[.int .i64 0, .int .i64 0, .int .i64 0, .int .i64 0]).alloc (.cells #[.int .i64 0, .int .i64 0, .int .i64 0, .int .i64 0] 32)).grown hG5 ng4; obtain ⟨qc0, qc1, qc2, qc3⟩ := box4 zC; have fc0 := zC.frozen 0; have fc1 := zC.frozen 1; have fc2 := zC.frozen 2; have fc3 := zC.frozen 3; have zC_ := zC.alloc (.cells #[.int .i64 0, .int .i64 0, .int .i64 0, .int .i64 0] 32); obtain ⟨qC0, qC1, qC2, qC3⟩ := box4 zC_; have fC0 := zC_.frozen 0; have fC1 := zC_.frozen 1; have fC2 := zC_.frozen 2; have fC3 := zC_.frozen 3; have lc5 := zC.lt; have nc5 : w4.heap.size ≠ w5.heap.size := (by omega); have nc5' : w5.heap.size ≠ w4.heap.size := (by omega); have zD0 := Bk.new (w4.alloc (.cells #[.int .i64 0, .int .i64 0, .int .i64 0, .int .i64 0] 32)) 32 #[.int .i64 0, .int .i64 0, .int .i64 0, .int .i64 0]; rw [show (w4.alloc (.cells #[.int .i64 0, .int .i64 0, .int .i64 0, .int .i64 0] 32)).heap.size = w4.heap.size + 1 from (by simp)] at zD0; have zD := zD0.grown hG5 ng5; obtain ⟨qd0, qd1, qd2, qd3⟩ := box4 zD; have fd0 := zD.frozen 0; have fd1 := zD.frozen 1; have fd2 := zD.frozen 2; have fd3 := zD.frozen 3))
                  all_goals
                    go_wp2_with fail
                    go_meet
                    skip
                    refine ⟨_, _, ⟨x0, y0, x1, y1⟩, ⟨u0, v0, u1, v1⟩, rfl, rfl, ?_, ?_, List.mem_of_getElem? hx, List.mem_of_getElem? hy, ?_, ?_⟩
                    · refine ⟨?_, ?_, ?_, ?_⟩ <;> first | (go_simp; done) | (simp [go_sem, *]; done)
                    · refine ⟨?_, ?_, ?_, ?_⟩ <;> first | (go_simp; done) | (simp [go_sem, *]; done)
                    · refine RL.less (RL.keptG hR9 (HeldL.fin (w9 := w9) (g := g) ?_) (Nat.lt_succ_self g)) (Nat.zero_le _)
                      (repeat' (first | with_reducible exact hB5 | with_reducible exact hB4 | with_reducible exact hV0 | with_reducible exact hV1 | with_reducible exact hV2 | with_reducible refine HeldL.alloc ?_ _ | with_reducible refine HeldL.setCell ?_ hg9 ?_ _)) <;> first | omega | (simp; done) | (simp; omega)
                    · refine hb9.trans (grown_below (HeldL.fin (w9 := w9) (g := g) ?_) (fun q hq => by simp at hq; omega) hb9.size)
                      (repeat' (first | with_reducible exact hB5 | with_reducible exact hB4 | with_reducible exact hV0 | with_reducible exact hV1 | with_reducible exact hV2 | with_reducible refine HeldL.alloc ?_ _ | with_reducible refine HeldL.setCell ?_ hg9 ?_ _)) <;> first | omega | (simp; done) | (simp; omega)
                case rest =>
                  obtain ⟨b1, b2, ⟨x0, y0, x1, y1⟩, ⟨u0, v0, u1, v1⟩, rfl, rfl, z1, z2, hx, hy, hRw, hbw⟩ := hcut
                  have e1 := A4'.out _ hx
                  have e2 := B4'.out _ hy
                  dsimp only at e1 e2 z1 z2
                  have E1 := Lib.hid e1
                  have E2 := Lib.hid e2
                  clear e1 e2 hx hy
                  obtain ⟨p0, p1, p2, p3⟩ := z1.cells
                  go_wp2_with fail
                  refine (rt_impl _ rs x0 y0 false _ hRw).mono ?_
                  rintro e wA ⟨rfl, hbA⟩
                  rw [E1.out]
                  dsimp only [witX, witB, Option.getD_some, Option.isSome_some]
                  have z1A := z1.on hbA
                  have z2A := z2.on hbA
                  have hRA := hRw.on hbA
                  replace hbA := hbw.trans (hbA.mono hbw.size)
                  clear z1 z2 hRw hbw p0 p1 p2 p3
                  have z3 := Bk.new wA 32 #[.int .i64 x0, .int .i64 y0, .int .i64 x1, .int .i64 y1]
                  have z1B := z1A.alloc (.cells #[.int .i64 x0, .int .i64 y0, .int .i64 x1, .int .i64 y1] 32)
                  have z2B := z2A.alloc (.cells #[.int .i64 x0, .int .i64 y0, .int .i64 x1, .int .i64 y1] 32)
                  have hRB := RL.alloc hRA (.cells #[.int .i64 x0, .int .i64 y0, .int .i64 x1, .int .i64 y1] 32)
                  have hbB := hbA.alloc hbA.size (.cells #[.int .i64 x0, .int .i64 y0, .int .i64 x1, .int .i64 y1] 32)
                  obtain ⟨p0, p1, p2, p3⟩ := z2B.cells
                  clear z1A z2A hRA hbA
                  go_wp2_with fail
                  refine (rt_impl _ rs u0 v0 true _ hRB).mono ?_
                  clear p0 p1 p2 p3
                  revert z3 z1B z2B hRB hbB
                  generalize wA.alloc (.cells #[.int .i64 x0, .int .i64 y0, .int .i64 x1, .int .i64 y1] 32) = wB
                  generalize wA.heap.size = b3
                  intro z3 z1B z2B hRB hbB
                  rintro e wC ⟨rfl, hbC⟩
                  rw [E2.out]
                  dsimp only [witX, witB, Option.getD_some, Option.isSome_some]
                  have z1C := z1B.on hbC
                  have z2C := z2B.on hbC
                  have z3C := z3.on hbC
                  replace hbC := hbB.trans (hbC.mono hbB.size)
                  clear z1B z2B z3 hRB hbB
                  have z4 := Bk.new wC 32 #[.int .i64 u0, .int .i64 v0, .int .i64 u1, .int .i64 v1]
                  have z1D := z1C.alloc (.cells #[.int .i64 u0, .int .i64 v0, .int .i64 u1, .int .i64 v1] 32)
                  have z2D := z2C.alloc (.cells #[.int .i64 u0, .int .i64 v0, .int .i64 u1, .int .i64 v1] 32)
                  have z3D := z3C.alloc (.cells #[.int .i64 u0, .int .i64 v0, .int .i64 u1, .int .i64 v1] 32)
                  have hbD := hbC.alloc hbC.size (.cells #[.int .i64 u0, .int .i64 v0, .int .i64 u1, .int .i64 v1] 32)
                  obtain ⟨p0, p1, p2, p3⟩ := z1D.cells
                  obtain ⟨q0, q1', q2', q3⟩ := z2D.cells
                  obtain ⟨r0, r1, r2, r3⟩ := box4 z3D
                  obtain ⟨t0, t1, t2, t3⟩ := box4 z4
                  have hq1 : eqRc ⟨x0, y0, x1, y1⟩ ⟨x0, y0, x1, y1⟩ = true := (eqRc_iff _ _).2 rfl
                  have hq2 : eqRc ⟨u0, v0, u1, v1⟩ ⟨u0, v0, u1, v1⟩ = true := (eqRc_iff _ _).2 rfl
                  clear z1C z2C z3C z1D z2D z3D z4 hbC
                  go_wp2
                  go_ret
                  exact ⟨rfl, hbD⟩
    · have hreg' : isReg rs = false := by simpa using hreg
      rw [Hno.out hreg' false] at hH4
      rw [Hno.out hreg' true] at hV
      obtain ⟨A2, c2, rfl, hc2, hm2, -⟩ := hH4.form
      obtain ⟨A3, c3, rfl, hc3, hm3, -⟩ := hV.form
      have Hreg := Lib.hid hreg'
      clear hreg hreg' Hno Hyes
      go_wp2_with fail
      refine (isReg_spec _ rs _ (hR4.less (Nat.zero_le _))).mono ?_
      rintro e w5 ⟨rfl, hb5⟩
      rw [Hreg.out]
      go_wp2
      go_ret
      exact ⟨rfl, hb4.trans (hb5.mono hb4.size)⟩

end Go.Proofs.Ytooglkdloaaomaa
