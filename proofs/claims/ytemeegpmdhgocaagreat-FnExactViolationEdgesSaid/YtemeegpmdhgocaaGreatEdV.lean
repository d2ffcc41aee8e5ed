/- Contract: the reference's ViolationEdges. Conditions: a list of lists, a list of rules, a region in memory. -/
import Derived.Test.YtemeegpmdhgocaaGreatEdUL
import Derived.Test.YtemeegpmdhgocaaGreatClean
import Derived.Test.YtemeegpmdhgocaaGreatPartsA
import Derived.Deep.RegionHeld3
namespace Go.Proofs.YtemeegpmdhgocaaGreat
open Go.RowKit

noncomputable def veL (rss : List (List Rc)) (q : Ru) (ms : List Rc) : List Ed := sqz (srtE ((bndTo (cellsG (layAt rss q.l)) 81 ++ (if pairB q.k = true then bndTo (cellsG (layAt rss q.o)) 81 else [])).filter (besB (cellsG ms))))
noncomputable def veLst (rss : List (List Rc)) (qs : List Ru) (k : Int) (ms : List Rc) : List Ed := if (layB rss && deckB qs && vioV k ms) = true then (match qs[k.toNat]? with | some q => veL rss q ms | none => []) else []
noncomputable def veC (rss : List (List Rc)) (qs : List Ru) (k : Int) (ms : List Rc) : Int := if (layB rss && deckB qs && vioV k ms) = true then (if k < qs.length then 0 else 5) else 1
theorem ve_no {rss : List (List Rc)} {qs : List Ru} {k : Int} {ms : List Rc} (h : (layB rss && deckB qs && vioV k ms) = false) : veLst rss qs k ms = [] ∧ veC rss qs k ms = 1 := by
  unfold veLst veC
  rw [h]
  exact ⟨rfl, rfl⟩
theorem vio_facts {k : Int} {ms : List Rc} (h : vioV k ms = true) : (0 ≤ k ∧ k ≤ 11) ∧ okAll ms = true := by
  unfold vioV connV inB at h
  simp only [Bool.and_eq_true, decide_eq_true_eq] at h
  exact ⟨h.1, okAll_of_reg h.2.1⟩
theorem ve_far {rss : List (List Rc)} {qs : List Ru} {k : Int} {ms : List Rc} (h : (layB rss && deckB qs && vioV k ms) = true) (hk : ¬ k < qs.length) : veLst rss qs k ms = [] ∧ veC rss qs k ms = 5 := by
  have hv : vioV k ms = true := by simp only [Bool.and_eq_true] at h; exact h.2
  have h0 := (vio_facts hv).1
  unfold veLst veC
  rw [if_pos h, if_pos h, if_neg hk, List.getElem?_eq_none (by omega)]
  exact ⟨rfl, rfl⟩
theorem ve_yes {rss : List (List Rc)} {qs : List Ru} {k : Int} {ms : List Rc} {q : Ru} (h : (layB rss && deckB qs && vioV k ms) = true) (hq : qs[k.toNat]? = some q) (hk : k < qs.length) : veLst rss qs k ms = veL rss q ms ∧ veC rss qs k ms = 0 := by
  unfold veLst veC
  rw [if_pos h, if_pos h, if_pos hk, hq]
  exact ⟨rfl, rfl⟩
theorem veL_one {rss : List (List Rc)} {q : Ru} {ms : List Rc} {K : List Ed} (hp : pairB q.k = false) (hK : EdgesOf (cellsG (layAt rss q.l)) K) : veL rss q ms = putAllE (cellsG ms) [] K := by
  unfold veL
  rw [hp, if_neg (by decide), List.append_nil]
  exact edges_same (fun e => bnd_mem _ e) hK
theorem veL_two {rss : List (List Rc)} {q : Ru} {ms : List Rc} {K K2 : List Ed} (hp : pairB q.k = true) (hK : EdgesOf (cellsG (layAt rss q.l)) K) (hK2 : EdgesOf (cellsG (layAt rss q.o)) K2) : veL rss q ms = putAllE (cellsG ms) (putAllE (cellsG ms) [] K) K2 := by
  unfold veL
  rw [if_pos hp]
  exact edges_same2 (fun e => bnd_mem _ e) hK (fun e => bnd_mem _ e) hK2

set_option maxHeartbeats 400000 in
/-- l20Paired. -/
theorem l20Paired_any (k l o v p : Int) (w : World) : Calls Tryz.prog 27 #[.agg #[.int .i64 k, .int .i64 l, .int .i64 o, .int .i64 v, .int .i64 p]] w fun e w' => e = .returned (.bool (pairB k)) ∧ Below w.heap.size w w' := by
  have bb := (Below.refl w.heap.size w).alloc (Nat.le_refl _) (.cells #[.int .i64 k, .int .i64 l, .int .i64 o, .int .i64 v, .int .i64 p] 60)
  by_cases h2 : k = 2
  · subst h2
    go_enter Tryz.func27, Tryz.ntmps27
    go_wp2
    go_ret
    exact ⟨rfl, bb⟩
  · have b2 : (k == 2) = false := by simpa using h2
    have hp : decide (k = 3) = pairB k := by unfold pairB; simp [h2]
    go_enter Tryz.func27, Tryz.ntmps27
    go_wp2
    go_ret
    exact ⟨ret_bool (by rw [← hp]; first | rfl | simp), bb⟩

theorem lay_reg {rss : List (List Rc)} (h : layB rss = true) {i : Nat} (hi : i < rss.length) : isReg (layAt rss (i : Int)) = true := by
  unfold layAt
  rw [Int.toNat_natCast, List.getD_eq_getElem?_getD, List.getElem?_eq_getElem hi]
  exact ((layB_iff rss).1 h).2 _ (List.getElem_mem hi)

/-- What stays while ViolationEdges runs. -/
structure VE (w W : World) (lv : Value) (rss : List (List Rc)) (A : Option Addr) (n c : Nat) (qs : List Ru) (k : Int) (vm : Value) (ms : List Rc) : Prop where
  dk : Bk W w.heap.size 39 #[.slice A n c]
  vi : Bk W (w.heap.size + 1) 43 #[.int .i64 k, vm]
  ru : QL W 0 (.slice A n c) qs
  la : RLL W 0 lv rss
  rg : RL W 0 vm ms
  bel : Below w.heap.size w W
theorem VE.on {w W W' : World} {lv : Value} {rss : List (List Rc)} {A : Option Addr} {n c : Nat} {qs : List Ru} {k : Int} {vm : Value} {ms : List Rc} (h : VE w W lv rss A n c qs k vm ms) (hb : Below W.heap.size W W') : VE w W' lv rss A n c qs k vm ms :=
  ⟨h.dk.on hb, h.vi.on hb, h.ru.on hb, h.la.on hb, h.rg.on hb, h.bel.trans (hb.mono h.bel.size)⟩
theorem VE.start {w : World} {lv : Value} {rss : List (List Rc)} {A : Option Addr} {n c : Nat} {qs : List Ru} {vm : Value} {ms : List Rc} (k : Int) (hl : RLL w 0 lv rss) (hq : QL w 0 (.slice A n c) qs) (hm : RL w 0 vm ms) : VE w ((w.alloc (.cells #[.slice A n c] 39)).alloc (.cells #[.int .i64 k, vm] 43)) lv rss A n c qs k vm ms := by
  have b1 := (Below.refl w.heap.size w).alloc (Nat.le_refl _) (.cells #[.slice A n c] 39)
  have b2 := b1.alloc b1.size (.cells #[.int .i64 k, vm] 43)
  refine ⟨(Bk.new w _ _).alloc _, ?_, hq.on b2, hl.on b2, hm.on b2, b2⟩
  have := Bk.new (w.alloc (.cells #[.slice A n c] 39)) 43 #[.int .i64 k, vm]
  simpa using this

set_option maxHeartbeats 1600000 in
set_option maxRecDepth 100000 in
/-- ViolationEdges of the reference. -/
theorem ve_spec (lv v vm : Value) (rss : List (List Rc)) (qs : List Ru) (k : Int) (ms : List Rc) (w : World) (hl : RLL w 0 lv rss) (hv : QL w 0 v qs) (hm : RL w 0 vm ms) :
    Calls Tryz.prog 7 #[lv, .agg #[v], .agg #[.int .i64 k, vm]] w fun e w' => ∃ u, e = .returned (.tuple #[u, .int .i64 (veC rss qs k ms)]) ∧ EL w' w.heap.size u (veLst rss qs k ms) ∧ Below w.heap.size w w' := by
  obtain ⟨A, c, rfl, hc, hmx⟩ := hv.form
  unfold maxLen at hmx
  have V0 := VE.start k hl hv hm
  clear hl hv hm
  cases h1 : layB rss with
  | false =>
    obtain ⟨e0, e1⟩ := ve_no (rss := rss) (qs := qs) (k := k) (ms := ms) (by rw [h1]; simp)
    rw [e0, e1]
    clear e0 e1
    have HV := Lib.hid V0
    clear V0
    go_enter Tryz.func7, Tryz.ntmps7
    go_wp2_with fail
    refine (isLay_spec _ rss _ HV.out.la).mono ?_
    rintro e w1 ⟨rfl, hb1⟩
    rw [h1]
    go_wp2
    refine bodyPost_ret (v := .tuple #[.slice none 0 0, .int .i64 1]) (by simp [results, Tryz.results7, go_sem]) rfl ?_
    exact ⟨_, rfl, EL.nil _ _, (HV.out.on hb1).bel⟩
  | true =>
  have H1 := Lib.hid h1
  cases h2 : deckB qs with
  | false =>
    obtain ⟨e0, e1⟩ := ve_no (rss := rss) (qs := qs) (k := k) (ms := ms) (by rw [h2]; simp)
    rw [e0, e1]
    clear e0 e1 h1
    have HV := Lib.hid V0
    clear V0
    go_enter Tryz.func7, Tryz.ntmps7
    go_wp2_with fail
    refine (isLay_spec _ rss _ HV.out.la).mono ?_
    rintro e w1 ⟨rfl, hb1⟩
    rw [H1.out]
    replace HV := Lib.hid (HV.out.on hb1)
    have d0 := box1 HV.out.dk
    go_wp2_with fail
    refine (deck_spec _ qs _ HV.out.ru).mono ?_
    rintro e w2 ⟨rfl, hb2⟩
    rw [h2]
    clear d0
    go_wp2
    refine bodyPost_ret (v := .tuple #[.slice none 0 0, .int .i64 1]) (by simp [results, Tryz.results7, go_sem]) rfl ?_
    exact ⟨_, rfl, EL.nil _ _, (HV.out.on hb2).bel⟩
  | true =>
  have H2 := Lib.hid h2
  cases h3 : vioV k ms with
  | false =>
    obtain ⟨e0, e1⟩ := ve_no (rss := rss) (qs := qs) (k := k) (ms := ms) (by rw [h3]; simp)
    rw [e0, e1]
    clear e0 e1 h1 h2
    have HV := Lib.hid V0
    clear V0
    go_enter Tryz.func7, Tryz.ntmps7
    go_wp2_with fail
    refine (isLay_spec _ rss _ HV.out.la).mono ?_
    rintro e w1 ⟨rfl, hb1⟩
    rw [H1.out]
    replace HV := Lib.hid (HV.out.on hb1)
    have d0 := box1 HV.out.dk
    go_wp2_with fail
    refine (deck_spec _ qs _ HV.out.ru).mono ?_
    rintro e w2 ⟨rfl, hb2⟩
    rw [H2.out]
    clear d0
    replace HV := Lib.hid (HV.out.on hb2)
    obtain ⟨d1, d2⟩ := box2 HV.out.vi
    go_wp2_with fail
    refine (vio_spec k vm ms _ HV.out.rg).mono ?_
    rintro e w3 ⟨rfl, hb3⟩
    rw [h3]
    clear d1 d2
    go_wp2
    refine bodyPost_ret (v := .tuple #[.slice none 0 0, .int .i64 1]) (by simp [results, Tryz.results7, go_sem]) rfl ?_
    exact ⟨_, rfl, EL.nil _ _, (HV.out.on hb3).bel⟩
  | true =>
  have H3 := Lib.hid h3
  have hall : (layB rss && deckB qs && vioV k ms) = true := by rw [h1, h2, h3]; rfl
  have Hall := Lib.hid hall
  obtain ⟨⟨hk0, hk11⟩, hokm⟩ := vio_facts h3
  obtain ⟨i, rfl⟩ : ∃ i : Nat, k = (i : Int) := ⟨k.toNat, by omega⟩
  have Hokm := Lib.hid hokm
  have HV := Lib.hid V0
  clear V0 h1 h2 h3 hall hokm
  go_enter Tryz.func7, Tryz.ntmps7
  go_wp2_with fail
  refine (isLay_spec _ rss _ HV.out.la).mono ?_
  rintro e w1 ⟨rfl, hb1⟩
  rw [H1.out]
  replace HV := Lib.hid (HV.out.on hb1)
  have d0 := box1 HV.out.dk
  go_wp2_with fail
  refine (deck_spec _ qs _ HV.out.ru).mono ?_
  rintro e w2 ⟨rfl, hb2⟩
  rw [H2.out]
  clear d0
  replace HV := Lib.hid (HV.out.on hb2)
  obtain ⟨d1, d2⟩ := box2 HV.out.vi
  go_wp2_with fail
  refine (vio_spec _ vm ms _ HV.out.rg).mono ?_
  rintro e w3 ⟨rfl, hb3⟩
  rw [H3.out]
  clear d1 d2
  replace HV := Lib.hid (HV.out.on hb3)
  clear hb1 hb2 hb3
  have d0 := box1 HV.out.dk
  obtain ⟨d1, d2⟩ := box2 HV.out.vi
  by_cases hlt : i < qs.length
  · obtain ⟨q, hq⟩ : ∃ q, qs[i]? = some q := ⟨_, List.getElem?_eq_getElem hlt⟩
    have hru := deck_rule H2.out hq
    have hrf := rule_facts hru
    have HY := Lib.hid (ve_yes Hall.out (by rw [Int.toNat_natCast]; exact hq) (show (i : Int) < (qs.length : Int) by omega))
    obtain ⟨a0, a1, a2, a3, a4⟩ := q
    dsimp only at hrf
    obtain ⟨x, rfl⟩ : ∃ x : Nat, a1 = (x : Int) := ⟨a1.toNat, by omega⟩
    obtain ⟨y, rfl⟩ : ∃ y : Nat, a2 = (y : Int) := ⟨a2.toNat, by omega⟩
    obtain ⟨gq, rfl, -, hgq, f0, f1, f2, f3, f4⟩ := HV.out.ru.elem hq
    dsimp only at f0 f1 f2 f3 f4
    obtain ⟨Al, cl, rfl, -, -⟩ := HV.out.la.form
    have hz : (x : Int) < (rss.length : Int) ∧ (y : Int) < (rss.length : Int) ∧ x < rss.length ∧ y < rss.length := by have h8 := ((layB_iff rss).1 H1.out).1; omega
    have Hru := Lib.hid hru
    have Hokx : Hid (okAll (layAt rss (x : Int)) = true) := Lib.hid (okAll_of_reg (lay_reg H1.out hz.2.2.1))
    have Hoky : Hid (okAll (layAt rss (y : Int)) = true) := Lib.hid (okAll_of_reg (lay_reg H1.out hz.2.2.2))
    have hltz : (i : Int) < (qs.length : Int) := by omega
    have bA := (Below.refl w3.heap.size w3).alloc (Nat.le_refl _) (.cells #[.int .i64 a0, .int .i64 (x : Int), .int .i64 (y : Int), .int .i64 a3, .int .i64 a4] 60)
    have V4 := HV.out.on bA
    have Z4 := Bk.new w3 60 #[.int .i64 a0, .int .i64 (x : Int), .int .i64 (y : Int), .int .i64 a3, .int .i64 a4]
    clear hq hru
    go_upto_region 6 with fail
    clear d0 d1 d2 f0 f1 f2 f3 f4 bA hgq
    generalize hgr : w3.heap.size = gr at *
    generalize w3.alloc (.cells #[.int .i64 a0, .int .i64 (x : Int), .int .i64 (y : Int), .int .i64 a3, .int .i64 a4] 60) = W4 at *
    obtain ⟨gl, ux, rfl, hgl, fx, rx⟩ := lay_elem V4.la hz.2.2.1
    obtain ⟨gl2, uy, hgl2, -, fy, ry⟩ := lay_elem V4.la hz.2.2.2
    cases hgl2
    have HR := Lib.hid (And.intro rx ry)
    have hBW := V4.bel.size
    have HS := Lib.hid (show ∀ W, Below W4.heap.size W4 W → (W.cell? ⟨gr, 0, none⟩ = some (.int .i64 a0) ∧ W.cell? ⟨gr, 1, none⟩ = some (.int .i64 (x : Int)) ∧ W.cell? ⟨gr, 2, none⟩ = some (.int .i64 (y : Int)) ∧ W.cell? ⟨gr, 3, none⟩ = some (.int .i64 a3) ∧ W.cell? ⟨gr, 4, none⟩ = some (.int .i64 a4)) ∧ (W.cell? ⟨w.heap.size + 1, 0, none⟩ = some (.int .i64 (i : Int)) ∧ W.cell? ⟨w.heap.size + 1, 1, none⟩ = some vm) ∧ W.cell? ⟨gl, x, none⟩ = some ux ∧ W.cell? ⟨gl, y, none⟩ = some uy from fun W hW => ⟨box5 (Z4.on hW), box2 (V4.vi.on hW), (hW.cell (p := ⟨gl, x, none⟩) hgl).trans fx, (hW.cell (p := ⟨gl, y, none⟩) hgl).trans fy⟩)
    have HV4 := Lib.hid V4
    have tc := Lib.hid (Below.refl W4.heap.size W4).drew
    have tn := Lib.hid (tc.out.alloc tc.out.size (.cells #[] 70))
    have HN := Lib.hid (show EL (W4.drew.alloc (.cells #[] 70)) w.heap.size (.slice (some ⟨W4.drew.heap.size, 0, none⟩) 0 0) [] from World.ownsRow_lit W4.drew #[] 0 hBW (by simp [maxLen]) (by simp))
    have hBN : w.heap.size ≤ (W4.drew.alloc (.cells #[] 70)).heap.size := Nat.le_trans hBW tn.out.size
    have h50 : ([] : List Ed).length ≤ 50000 := by simp
    clear V4 Z4 fx fy rx ry
    go_region_held3 (fun W => (W.cell? ⟨gr, 0, none⟩ = some (.int .i64 a0) ∧ W.cell? ⟨gr, 1, none⟩ = some (.int .i64 (x : Int)) ∧ W.cell? ⟨gr, 2, none⟩ = some (.int .i64 (y : Int)) ∧ W.cell? ⟨gr, 3, none⟩ = some (.int .i64 a3) ∧ W.cell? ⟨gr, 4, none⟩ = some (.int .i64 a4)) ∧ (W.cell? ⟨w.heap.size + 1, 0, none⟩ = some (.int .i64 (i : Int)) ∧ W.cell? ⟨w.heap.size + 1, 1, none⟩ = some vm) ∧ W.cell? ⟨gl, x, none⟩ = some ux ∧ W.cell? ⟨gl, y, none⟩ = some uy)
      (first | with_reducible exact HS.out _ tc.out | with_reducible exact HS.out _ tn.out | with_reducible exact HS.out _ ty.out | exact HS.out _ (Below.refl _ _) | exact HS.out _ tn.out | exact HS.out _ (tn.out.drew) | (trace_state; fail))
      (first | (go_at_call 26; refine (l20Edges_any _ 0 0 [] ux vm (layAt rss (x : Int)) ms w.heap.size _ HN.out hBN (HR.out.1.on tn.out) (HV4.out.rg.on tn.out) Hokx.out Hokm.out h50).mono ?_; rintro e w4 ⟨g4, n4, c4, K, rfl, hE, hK, hKl, hb4⟩; have ty := Lib.hid (tn.out.trans (hb4.mono tn.out.size))))
    all_goals
      have HK := Lib.hid (And.intro hK hKl)
      have HE := Lib.hid hE
      have HVE := Lib.hid (HV4.out.on ty.out)
      obtain ⟨⟨d0, d1, d2, d3, d4⟩, -, -, -⟩ := HS.out _ ty.out
      clear hK hKl hE hb4
      go_wp2_with fail
      refine (l20Paired_any a0 (x : Int) (y : Int) a3 a4 _).mono ?_
      rintro e w5 ⟨rfl, hb5⟩
      have b5 := Lib.hid (ty.out.trans (hb5.mono ty.out.size))
      have HE5 := Lib.hid (HE.out.on hb5)
      clear d0 d1 d2 d3 d4 hb5
      cases hp : pairB a0 with
      | false =>
        have HP := Lib.hid hp
        clear hp
        go_wp2
        refine bodyPost_ret (v := .tuple #[.slice (some ⟨g4, 0, none⟩) n4 c4, .int .i64 0]) (by simp [results, Tryz.results7, go_sem]) rfl ?_
        exact ⟨_, by rw [HY.out.2], by rw [HY.out.1, veL_one HP.out HK.out.1]; exact HE5.out, (HV4.out.on b5.out).bel⟩
      | true =>
        have HP := Lib.hid hp
        have h51 : (putAllE (cellsG ms) [] K).length ≤ 50000 := by have h1 := putAllE_len (cellsG ms) K []; have h2 := HK.out.2; simp only [List.length_nil] at h1; omega
        have tc5 := Lib.hid b5.out.drew
        have HE6 := Lib.hid (show EL w5.drew w.heap.size (.slice (some ⟨g4, 0, none⟩) n4 c4) (putAllE (cellsG ms) [] K) from HE5.out)
        have hBN5 : w.heap.size ≤ w5.drew.heap.size := Nat.le_trans hBW tc5.out.size
        clear hp
        go_upto_region 8 with fail
        go_region_held3 (fun W => (W.cell? ⟨gr, 0, none⟩ = some (.int .i64 a0) ∧ W.cell? ⟨gr, 1, none⟩ = some (.int .i64 (x : Int)) ∧ W.cell? ⟨gr, 2, none⟩ = some (.int .i64 (y : Int)) ∧ W.cell? ⟨gr, 3, none⟩ = some (.int .i64 a3) ∧ W.cell? ⟨gr, 4, none⟩ = some (.int .i64 a4)) ∧ (W.cell? ⟨w.heap.size + 1, 0, none⟩ = some (.int .i64 (i : Int)) ∧ W.cell? ⟨w.heap.size + 1, 1, none⟩ = some vm) ∧ W.cell? ⟨gl, x, none⟩ = some ux ∧ W.cell? ⟨gl, y, none⟩ = some uy)
          (first | with_reducible exact HS.out _ tc5.out | with_reducible exact HS.out _ tz.out | exact HS.out _ b5.out)
          (first | (go_at_call 26; refine (l20Edges_any g4 n4 c4 (putAllE (cellsG ms) [] K) uy vm (layAt rss (y : Int)) ms w.heap.size _ HE6.out hBN5 (HR.out.2.on tc5.out) (HV4.out.rg.on tc5.out) Hoky.out Hokm.out h51).mono ?_; rintro e w6 ⟨g6, n6, c6, K2, rfl, hE2, hK2, -, hb6⟩; have tz := Lib.hid (tc5.out.trans (hb6.mono tc5.out.size))))
        all_goals
          have HE2 := Lib.hid hE2
          clear hE2 hb6
          go_wp2
          refine bodyPost_ret (v := .tuple #[.slice (some ⟨g6, 0, none⟩) n6 c6, .int .i64 0]) (by simp [results, Tryz.results7, go_sem]) rfl ?_
          exact ⟨_, by rw [HY.out.2], by rw [HY.out.1, veL_two HP.out HK.out.1 hK2]; exact HE2.out, (HV4.out.on tz.out).bel⟩
  · have HF := Lib.hid (ve_far Hall.out (show ¬ ((i : Int) < (qs.length : Int)) by omega))
    have hge : ((qs.length : Nat) : Int) ≤ (i : Int) := by omega
    go_wp2
    refine bodyPost_ret (v := .tuple #[.slice none 0 0, .int .i64 5]) (by simp [results, Tryz.results7, go_sem]) rfl ?_
    exact ⟨_, by rw [HF.out.2], by rw [HF.out.1]; exact EL.nil _ _, HV.out.bel⟩

end Go.Proofs.YtemeegpmdhgocaaGreat
