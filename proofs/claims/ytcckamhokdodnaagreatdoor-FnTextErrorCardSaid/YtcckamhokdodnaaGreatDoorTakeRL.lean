/- The program's take. Conditions: the parser's state lies in memory; the words and the numbers of a line that begins with the keyword. The program's take: lines of records. Conditions: the parser's state lies in memory; the words and the numbers of a line that begins with the keyword. The program's take: lines of records. Conditions: the parser's state lies in memory; the words and the numbers of a line that begins with the keyword. -/
import Derived.Test.YtcckamhokdodnaaGreatDoorTakeK
import Derived.StillTailTactics
import Derived.BigRegion
import Derived.Deep.RegionHeld3
namespace Go.Proofs.YtcckamhokdodnaaGreatDoor
open Go.RowKit

theorem tyI : tyOk 83 ∧ 83 ≠ 46 := by decide

set_option maxHeartbeats 3200000 in
set_option maxRecDepth 100000 in
theorem takeCell_impl (A : Option Addr) (n c : Nat) (vv : Value) (ws : List ByteArray) (v : List Int) (B g : Nat) (st : PS) (cv : Value) (ps : List (CellD × Sl3)) (u : Sl3) (w : World) (hP : PMi w B g st cv ps u) (_hO : StOk st)
    (hW : SL w 0 (.slice A n c) ws) (hn : n = ws.length) (nm : ByteArray) (h0 : ws[0]? = some kwCell) (h1 : ws[1]? = some nm) :
    Calls Tryz.prog 64 #[.pointer (some ⟨g, 0, none⟩), .slice A n c, vv] w (TakeAns 83 pvI st .cell ws v B g w) := by
  obtain ⟨uS, uL, uI⟩ := u
  obtain ⟨A9, c9, ecv, -, hm9⟩ := hP.lib.form
  rw [hP.len] at ecv
  subst ecv
  have hl1 : 0 < ws.length := (List.getElem?_eq_some_iff.1 h0).1
  obtain ⟨gw, x0, rfl, hx0, -, hgw, cw0⟩ := hW.elem (k := 0) hl1
  obtain rfl : x0 = kwCell := by rw [h0] at hx0; exact (Option.some.inj hx0).symm
  have Hlen := Lib.hid hP.len
  have HP := Lib.hid hP
  have b0 : w.cell? ⟨g, 0, none⟩ = some (.slice A9 st.done.length c9) := HP.out.bk.cell 0
  have b1 : w.cell? ⟨g, 1, none⟩ = some (.string st.cell.name) := HP.out.bk.cell 1
  have b2 : w.cell? ⟨g, 2, none⟩ = some uS := HP.out.bk.cell 2
  have b3 : w.cell? ⟨g, 3, none⟩ = some uL := HP.out.bk.cell 3
  have b4 : w.cell? ⟨g, 4, none⟩ = some uI := HP.out.bk.cell 4
  have b5 : w.cell? ⟨g, 5, none⟩ = some (.bool st.op) := HP.out.bk.cell 5
  have fz := HP.out.bk.frozen
  have hL0 : 0 < n := by omega
  have hl2 : 1 < ws.length := (List.getElem?_eq_some_iff.1 h1).1
  obtain ⟨gw2, x1, hA, hx1, -, -, cw1⟩ := hW.elem (k := 1) hl2
  obtain rfl : gw = gw2 := by simpa using hA
  obtain rfl : x1 = nm := by rw [h1] at hx1; exact (Option.some.inj hx1).symm
  have H1 : Hid (wAt ws 1 = x1) := Lib.hid (wAt_at h1)
  have hL1 : 1 < n := by omega
  clear hP hW h0 hx0 hx1 h1 hA
  by_cases h8 : st.done.length = 8
  · have Hv : Hid (takeV st .cell ws v = (3, st)) := Lib.hid (by simp only [takeV, if_pos h8])
    have h8p : (st.done.length : Int) = 8 := by omega
    clear h8
    go_enter Tryz.func64, Tryz.ntmps64
    go_wp2
    go_ret
    exact ⟨_, _, _, _, _, rfl, Hv, HP.out, Below.refl _ _, KeepI.refl _⟩
  · have Hv : Hid (takeV st .cell ws v = (0, ⟨st.done, ⟨x1, [], [], []⟩, true⟩)) := Lib.hid (by simp only [takeV, if_neg h8, H1.out])
    have h8p : ¬ (st.done.length : Int) = 8 := by omega
    have h8q : ((st.done.length : Int) == 8) = false := by simpa using h8p
    clear h8
    go_enter Tryz.func64, Tryz.ntmps64
    go_wp2
    go_ret
    have k := ((((HP.out.pk.put tyI.1 tyI.2 5 (.bool true)).put tyI.1 tyI.2 1 (.string x1)).put tyI.1 tyI.2 2 (.slice none 0 0)).put tyI.1 tyI.2 3 (.slice none 0 0)).put tyI.1 tyI.2 4 (.slice none 0 0)
    exact ⟨0, _, .slice A9 st.done.length c9, ps, nil3, rfl, Hv, ⟨k.bk, HP.out.eq, k.lib, C3.nil _ _ _, apart_nil (apart_done HP.out.apart), k.hg⟩, k.bel, k.ints⟩

set_option maxHeartbeats 3200000 in
set_option maxRecDepth 100000 in
theorem takeFin_impl (A : Option Addr) (n c : Nat) (vv : Value) (ws : List ByteArray) (v : List Int) (B g : Nat) (st : PS) (cv : Value) (ps : List (CellD × Sl3)) (u : Sl3) (w : World) (hP : PMi w B g st cv ps u) (hO : StOk st)
    (hW : SL w 0 (.slice A n c) ws) (hn : n = ws.length) (h0 : ws[0]? = some kwEnd) (hop : st.op = true) :
    Calls Tryz.prog 64 #[.pointer (some ⟨g, 0, none⟩), .slice A n c, vv] w (TakeAns 83 pvI st .fin ws v B g w) := by
  obtain ⟨uS, uL, uI⟩ := u
  obtain ⟨A9, c9, ecv, -, hm9⟩ := hP.lib.form
  rw [hP.len] at ecv
  subst ecv
  have hl1 : 0 < ws.length := (List.getElem?_eq_some_iff.1 h0).1
  obtain ⟨gw, x0, rfl, hx0, -, hgw, cw0⟩ := hW.elem (k := 0) hl1
  obtain rfl : x0 = kwEnd := by rw [h0] at hx0; exact (Option.some.inj hx0).symm
  have Hlen := Lib.hid hP.len
  have HP := Lib.hid hP
  have b0 : w.cell? ⟨g, 0, none⟩ = some (.slice A9 st.done.length c9) := HP.out.bk.cell 0
  have b1 : w.cell? ⟨g, 1, none⟩ = some (.string st.cell.name) := HP.out.bk.cell 1
  have b2 : w.cell? ⟨g, 2, none⟩ = some uS := HP.out.bk.cell 2
  have b3 : w.cell? ⟨g, 3, none⟩ = some uL := HP.out.bk.cell 3
  have b4 : w.cell? ⟨g, 4, none⟩ = some uI := HP.out.bk.cell 4
  have b5 : w.cell? ⟨g, 5, none⟩ = some (.bool st.op) := HP.out.bk.cell 5
  have fz := HP.out.bk.frozen
  have hL0 : 0 < n := by omega
  clear hP hW h0 hx0
  have Hv : Hid (takeV st .fin ws v = (0, ⟨st.done ++ [st.cell], st.cell, false⟩)) := Lib.hid rfl
  have hOn := hO.n
  have hlen : ps.length ≤ 1000000 := by rw [Hlen.out]; omega
  have Hg := HP.out.hg
  have Hgl := HP.out.bk.lt
  have hBw : B ≤ w.heap.size := by omega
  have HK := Lib.hid (HP.out.pk.on (((Below.refl w.heap.size w).alloc (Nat.le_refl _) (.cells #[.string st.cell.name, uS, uL, uI] 46)).drew))
  go_enter Tryz.func64, Tryz.ntmps64
  go_wp2
  go_region_law (refine step_append_F (t := 46) (n := 4) (enc := cellV) rfl (.tmp 104) (.tmp 109) 24 88 _ infoCell Tryz.underlying24 rfl (by decide) (by decide) rfl B (.slice A9 st.done.length c9) ps (st.cell, ⟨uS, uL, uI⟩) rfl HK.out.lib.own rfl (cellV_one HP.out.cur) w.heap.size rfl (Bk.new w _ _).drew hlen (by simp; omega) ?_; intro v' w1 k1 k2 k3; obtain ⟨Av, cw, hv', -, -⟩ := k1.form; rw [List.length_append, List.length_singleton, Hlen.out] at hv'; subst hv'; have K1 := HK.out.push tyI.2 k1 k2; have d0 := K1.bk.cell 0; have f0 := K1.bk.frozen; have d5 := K1.bk.cell 5; simp only [pvI, List.getElem?_toArray, List.getElem?_cons_zero, List.getElem?_cons_succ] at d0 d5)
  go_wp2
  all_goals
    go_ret
    have k := (K1.put tyI.1 tyI.2 0 (.slice Av (st.done.length + 1) cw)).put tyI.1 tyI.2 5 (.bool false)
    exact ⟨0, _, _, ps ++ [(st.cell, ⟨uS, uL, uI⟩)], ⟨uS, uL, uI⟩, rfl, Hv, ⟨k.bk, by rw [List.map_append, HP.out.eq]; rfl, k.lib, k.cur, by have h := HP.out.apart; rw [hop] at h; simpa using h, k.hg⟩, k.bel, k.ints⟩


end Go.Proofs.YtcckamhokdodnaaGreatDoor

namespace Go.Proofs.YtcckamhokdodnaaGreatDoor
open Go.RowKit

set_option maxHeartbeats 3200000 in
set_option maxRecDepth 100000 in
theorem take_rect_impl (A : Option Addr) (n c : Nat) (B2 : Option Addr) (m2 c2 : Nat) (ws : List ByteArray) (a0 a1 a2 a3 a4 : Int) (B g : Nat) (st : PS) (cv : Value) (ps : List (CellD × Sl3)) (u : Sl3) (w : World) (hP : PMi w B g st cv ps u) (hO : StOk st)
    (hW : SL w 0 (.slice A n c) ws) (hn : n = ws.length) (h0 : ws[0]? = some kwRect) (hop : st.op = true) (hI : IL w 0 (.slice B2 m2 c2) [a0, a1, a2, a3, a4]) :
    Calls Tryz.prog 64 #[.pointer (some ⟨g, 0, none⟩), .slice A n c, .slice B2 m2 c2] w (TakeAns 83 pvI st .rect ws [a0, a1, a2, a3, a4] B g w) := by
  obtain ⟨uS, uL, uI⟩ := u
  obtain ⟨A9, c9, ecv, -, hm9⟩ := hP.lib.form
  rw [hP.len] at ecv
  subst ecv
  obtain ⟨A1, c1, e1, -, hm1⟩ := hP.cur.s.form
  dsimp only at e1
  subst e1
  obtain ⟨gv, rfl, hgv, e2, hcv⟩ := ints_at hI (by simp)
  obtain rfl : m2 = 5 := e2
  have v0 : w.cell? ⟨gv, 0, none⟩ = some (.int .i64 a0) := hcv 0 _ rfl
  have v1 : w.cell? ⟨gv, 1, none⟩ = some (.int .i64 a1) := hcv 1 _ rfl
  have v2 : w.cell? ⟨gv, 2, none⟩ = some (.int .i64 a2) := hcv 2 _ rfl
  have v3 : w.cell? ⟨gv, 3, none⟩ = some (.int .i64 a3) := hcv 3 _ rfl
  have v4 : w.cell? ⟨gv, 4, none⟩ = some (.int .i64 a4) := hcv 4 _ rfl
  have hl1 : 0 < ws.length := (List.getElem?_eq_some_iff.1 h0).1
  obtain ⟨gw, x0, rfl, hx0, -, hgw, cw0⟩ := hW.elem (k := 0) hl1
  obtain rfl : x0 = kwRect := by rw [h0] at hx0; exact (Option.some.inj hx0).symm
  have Hlen := Lib.hid hP.len
  have HP := Lib.hid hP
  have b0 : w.cell? ⟨g, 0, none⟩ = some (.slice A9 st.done.length c9) := HP.out.bk.cell 0
  have b2 : w.cell? ⟨g, 2, none⟩ = some (.slice A1 st.cell.shapes.length c1) := HP.out.bk.cell 2
  have fz := HP.out.bk.frozen
  have hL0 : 0 < n := by omega
  have Hg := HP.out.hg
  have Hgl := HP.out.bk.lt
  have hBw : B ≤ w.heap.size := by omega
  have hOs := hO.s
  have hOn := hO.n
  have hlen : st.cell.shapes.length ≤ 1000000 := by omega
  have Hap : Hid (Apart3 (ps.map Prod.snd ++ [⟨(.slice A1 st.cell.shapes.length c1), uL, uI⟩])) := Lib.hid (by have h := HP.out.apart; rwa [if_pos hop] at h)
  have bb : Hid (Below w.heap.size w (w.alloc (.cells #[.int .i64 a0, .int .i64 a1, .int .i64 a2, .int .i64 a3, .int .i64 a4] 62)).drew) := Lib.hid ((Below.refl w.heap.size w).alloc (Nat.le_refl _) _).drew
  have KB0 : Hid (Bk (w.alloc (.cells #[.int .i64 a0, .int .i64 a1, .int .i64 a2, .int .i64 a3, .int .i64 a4] 62)).drew w.heap.size 62 #[.int .i64 a0, .int .i64 a1, .int .i64 a2, .int .i64 a3, .int .i64 a4]) := Lib.hid (Bk.new w 62 #[.int .i64 a0, .int .i64 a1, .int .i64 a2, .int .i64 a3, .int .i64 a4]).drew
  clear hP hW h0 hx0 hI hcv hO
  have HSS : Hid (∀ W : World, Below w.heap.size w W → W.cell? ⟨gv, 0, none⟩ = some (.int .i64 a0) ∧ W.cell? ⟨gv, 1, none⟩ = some (.int .i64 a1) ∧ W.cell? ⟨gv, 2, none⟩ = some (.int .i64 a2) ∧ W.cell? ⟨gv, 3, none⟩ = some (.int .i64 a3) ∧ W.cell? ⟨gv, 4, none⟩ = some (.int .i64 a4)) := Lib.hid fun W hW => ⟨(hW.cell (p := ⟨gv, 0, none⟩) hgv).trans v0, (hW.cell (p := ⟨gv, 1, none⟩) hgv).trans v1, (hW.cell (p := ⟨gv, 2, none⟩) hgv).trans v2, (hW.cell (p := ⟨gv, 3, none⟩) hgv).trans v3, (hW.cell (p := ⟨gv, 4, none⟩) hgv).trans v4⟩
  go_enter Tryz.func64, Tryz.ntmps64
  go_wp2
  go_region_held3 (fun w' => w'.cell? ⟨gv, 0, none⟩ = some (.int .i64 a0) ∧ w'.cell? ⟨gv, 1, none⟩ = some (.int .i64 a1) ∧ w'.cell? ⟨gv, 2, none⟩ = some (.int .i64 a2) ∧ w'.cell? ⟨gv, 3, none⟩ = some (.int .i64 a3) ∧ w'.cell? ⟨gv, 4, none⟩ = some (.int .i64 a4)) (first | (with_reducible exact HSS.out _ (Below.refl _ _)) | (with_reducible exact HSS.out _ (Below.refl _ _).drew) | (with_reducible exact HSS.out _ ((Below.refl _ _).alloc (Nat.le_refl _) _)) | (with_reducible exact HSS.out _ ((Below.refl _ _).alloc (Nat.le_refl _) _).drew)) (fail)
  clear HSS
  generalize (w.alloc (.cells #[.int .i64 a0, .int .i64 a1, .int .i64 a2, .int .i64 a3, .int .i64 a4] 62)).drew = w0 at *
  have fz0 : ∀ i : Nat, w0.frozen? ⟨g, i, none⟩ = false := fun i => (bb.out.frozen (p := ⟨g, i, none⟩) Hgl).trans (fz i)
  have c0 : w0.cell? ⟨g, 0, none⟩ = some (.slice A9 st.done.length c9) := (bb.out.cell (p := ⟨g, 0, none⟩) Hgl).trans b0
  have c2 : w0.cell? ⟨g, 2, none⟩ = some (.slice A1 st.cell.shapes.length c1) := (bb.out.cell (p := ⟨g, 2, none⟩) Hgl).trans b2
  have d0 : w0.cell? ⟨gw, 0, none⟩ = some (.string kwRect) := (bb.out.cell (p := ⟨gw, 0, none⟩) hgw).trans cw0
  have hz0 : w.heap.size < w0.heap.size := KB0.out.lt
  have s0 : w0.cell? ⟨w.heap.size, 0, none⟩ = some (.int .i64 a0) := KB0.out.cell 0
  have s1 : w0.cell? ⟨w.heap.size, 1, none⟩ = some (.int .i64 a1) := KB0.out.cell 1
  have s2 : w0.cell? ⟨w.heap.size, 2, none⟩ = some (.int .i64 a2) := KB0.out.cell 2
  have s3 : w0.cell? ⟨w.heap.size, 3, none⟩ = some (.int .i64 a3) := KB0.out.cell 3
  have s4 : w0.cell? ⟨w.heap.size, 4, none⟩ = some (.int .i64 a4) := KB0.out.cell 4
  rcases Decidable.em (st.cell.shapes.length = 24) with h24 | h24
  · have Hv : Hid (takeV st .rect ws [a0, a1, a2, a3, a4] = (3, st)) := Lib.hid (takeV_rect_lim ws [a0, a1, a2, a3, a4] h24)
    have h24p : (st.cell.shapes.length : Int) = 24 := by omega
    clear h24
    go_wp2
    go_ret
    exact ⟨_, _, _, _, _, rfl, Hv, HP.out.on bb.out, bb.out.mono hBw, (KeepI.refl _).on bb.out⟩
  · have h24p : ¬ (st.cell.shapes.length : Int) = 24 := by omega
    have h24q : ((st.cell.shapes.length : Int) == 24) = false := by simpa using h24p
    cases hok : shapeB ⟨a0, ⟨a1, a2, a3, a4⟩⟩ with
    | false =>
      have Hv : Hid (takeV st .rect ws [a0, a1, a2, a3, a4] = (1, st)) := Lib.hid (by
        have h : shapeB (shapeOf [a0, a1, a2, a3, a4]) = false := hok
        exact takeV_rect_bad h24 h)
      clear h24
      go_wp2_with fail
      refine (shape_impl ⟨a0, ⟨a1, a2, a3, a4⟩⟩ _).mono ?_
      rintro e w1 ⟨rfl, hb1⟩
      rw [hok]
      go_wp2
      go_ret
      have b1 := bb.out.trans (hb1.mono bb.out.size)
      exact ⟨_, _, _, _, _, rfl, Hv, HP.out.on b1, b1.mono hBw, (KeepI.refl _).on b1⟩
    | true =>
      obtain ⟨st', hst'⟩ : ∃ st' : PS, st' = { st with cell := { st.cell with shapes := st.cell.shapes ++ [⟨a0, ⟨a1, a2, a3, a4⟩⟩] } } := ⟨_, rfl⟩
      have Hv : Hid (takeV st .rect ws [a0, a1, a2, a3, a4] = (0, st')) := Lib.hid (by
        have e : shapeOf [a0, a1, a2, a3, a4] = ⟨a0, ⟨a1, a2, a3, a4⟩⟩ := rfl
        have h : shapeB (shapeOf [a0, a1, a2, a3, a4]) = true := by rw [e]; exact hok
        rw [hst']
        rw [takeV_rect_ok h24 h, e])
      have HST := Lib.hid hst'
      clear h24 hst'
      go_wp2_with fail
      refine (shape_impl ⟨a0, ⟨a1, a2, a3, a4⟩⟩ _).mono ?_
      rintro e w1 ⟨rfl, hb1⟩
      rw [hok]
      have BB := Lib.hid (bb.out.trans (hb1.mono bb.out.size))
      have KB := KB0.out.on hb1
      have t0 : w1.cell? ⟨w.heap.size, 0, none⟩ = some (.int .i64 a0) := KB.cell 0
      have t1 : w1.cell? ⟨w.heap.size, 1, none⟩ = some (.int .i64 a1) := KB.cell 1
      have t2 : w1.cell? ⟨w.heap.size, 2, none⟩ = some (.int .i64 a2) := KB.cell 2
      have t3 : w1.cell? ⟨w.heap.size, 3, none⟩ = some (.int .i64 a3) := KB.cell 3
      have t4 : w1.cell? ⟨w.heap.size, 4, none⟩ = some (.int .i64 a4) := KB.cell 4
      have g2 : w1.cell? ⟨g, 2, none⟩ = some (.slice A1 st.cell.shapes.length c1) := (BB.out.cell (p := ⟨g, 2, none⟩) Hgl).trans b2
      have hz1 : w.heap.size < w1.heap.size := KB.lt
      have hBw1 : B ≤ w1.heap.size := by omega
      have Hgl1 : g < w1.heap.size := by omega
      clear s0 s1 s2 s3 s4 v0 v1 v2 v3 v4 c0 c2 d0 b0 b2 cw0 fz fz0 h24p h24q hok
      have HK := Lib.hid (HP.out.pk.on (BB.out.trans (((Below.refl w1.heap.size w1).alloc (Nat.le_refl _) (.cells #[.int .i64 a0, .int .i64 a1, .int .i64 a2, .int .i64 a3, .int .i64 a4] 62)).drew.mono (by omega))))
      clear KB hb1
      go_wp2
      go_region_law (refine step_append_F (t := 62) (n := 5) (enc := ShapeD.vals) rfl (.tmp 151) (.tmp 153) 42 40 _ infoShape Tryz.underlying42 rfl (by decide) (by decide) rfl B (.slice A1 st.cell.shapes.length c1) st.cell.shapes ⟨a0, ⟨a1, a2, a3, a4⟩⟩ rfl HK.out.cur.s rfl (shapeV_one _) w1.heap.size rfl (Bk.new w1 _ _).drew hlen (by simp; omega) ?_; intro v' w2 k1 k2 k3; obtain ⟨Av, cw, hv', -, -⟩ := k1.form; rw [List.length_append, List.length_singleton] at hv'; subst hv'; (have KG := HK.out.grow (e := 62) (u' := ⟨(.slice Av (st.cell.shapes.length + 1) cw), uL, uI⟩) (c' := { st.cell with shapes := st.cell.shapes ++ [⟨a0, ⟨a1, a2, a3, a4⟩⟩] }) Hap.out (by decide) (by decide) (fun b hb => .inl hb) HK.out.cur.s k2 k3 (fun b hb => by rcases hb with h | h | h; exact .inr h; exact .inl (.inr (.inl h)); exact .inl (.inr (.inr h))) ⟨k1, World.ownsRow.kept HK.out.cur.l k2 (own_types HK.out.cur.l HK.out.cur.s (by decide)), World.ownsRow.kept HK.out.cur.i k2 (own_types HK.out.cur.i HK.out.cur.s (by decide))⟩); have f0 := KG.1.bk.frozen; (have d2 : w2.cell? ⟨g, 2, none⟩ = some (.slice A1 st.cell.shapes.length c1) := KG.1.bk.cell 2); have K1 := Lib.hid KG; clear KG k1 k2 k3)
      go_wp2
      all_goals
        go_ret
        have k := K1.out.1.put tyI.1 tyI.2 2 (.slice Av (st.cell.shapes.length + 1) cw)
        exact ⟨0, st', _, ps, ⟨(.slice Av (st.cell.shapes.length + 1) cw), uL, uI⟩, rfl, Hv, by
          rw [HST.out]
          exact ⟨k.bk, HP.out.eq, k.lib, k.cur, by
            show Apart3 (_ ++ if st.op = true then _ else _)
            rw [if_pos hop]
            exact K1.out.2, k.hg⟩, k.bel, k.ints⟩


end Go.Proofs.YtcckamhokdodnaaGreatDoor

namespace Go.Proofs.YtcckamhokdodnaaGreatDoor
open Go.RowKit

set_option maxHeartbeats 3200000 in
set_option maxRecDepth 100000 in
theorem take_label_impl (A : Option Addr) (n c : Nat) (B2 : Option Addr) (m2 c2 : Nat) (ws : List ByteArray) (a0 a1 a2 a3 : Int) (B g : Nat) (st : PS) (cv : Value) (ps : List (CellD × Sl3)) (u : Sl3) (w : World) (hP : PMi w B g st cv ps u) (hO : StOk st)
    (hW : SL w 0 (.slice A n c) ws) (hn : n = ws.length) (h0 : ws[0]? = some kwLabel) (nm : ByteArray) (h4 : ws[4]? = some nm) (hnm : nm.size ≤ maxLen) (hop : st.op = true) (hI : IL w 0 (.slice B2 m2 c2) [a0, a1, a2, a3]) :
    Calls Tryz.prog 64 #[.pointer (some ⟨g, 0, none⟩), .slice A n c, .slice B2 m2 c2] w (TakeAns 83 pvI st .label ws [a0, a1, a2, a3] B g w) := by
  obtain ⟨uS, uL, uI⟩ := u
  obtain ⟨A9, c9, ecv, -, hm9⟩ := hP.lib.form
  rw [hP.len] at ecv
  subst ecv
  obtain ⟨A1, c1, e1, -, hm1⟩ := hP.cur.l.form
  dsimp only at e1
  subst e1
  obtain ⟨gv, rfl, hgv, e2, hcv⟩ := ints_at hI (by simp)
  obtain rfl : m2 = 4 := e2
  have v0 : w.cell? ⟨gv, 0, none⟩ = some (.int .i64 a0) := hcv 0 _ rfl
  have v1 : w.cell? ⟨gv, 1, none⟩ = some (.int .i64 a1) := hcv 1 _ rfl
  have v2 : w.cell? ⟨gv, 2, none⟩ = some (.int .i64 a2) := hcv 2 _ rfl
  have hl1 : 0 < ws.length := (List.getElem?_eq_some_iff.1 h0).1
  obtain ⟨gw, x0, rfl, hx0, -, hgw, cw0⟩ := hW.elem (k := 0) hl1
  obtain rfl : x0 = kwLabel := by rw [h0] at hx0; exact (Option.some.inj hx0).symm
  have hl4 : 4 < ws.length := (List.getElem?_eq_some_iff.1 h4).1
  obtain ⟨gw2, x1, hA, hx1, -, -, cw4⟩ := hW.elem (k := 4) hl4
  obtain rfl : gw = gw2 := by simpa using hA
  obtain rfl : x1 = nm := by rw [h4] at hx1; exact (Option.some.inj hx1).symm
  have H4 : Hid (wAt ws 4 = x1) := Lib.hid (wAt_at h4)
  have hL4 : 4 < n := by omega
  have Hlen := Lib.hid hP.len
  have HP := Lib.hid hP
  have b0 : w.cell? ⟨g, 0, none⟩ = some (.slice A9 st.done.length c9) := HP.out.bk.cell 0
  have b3 : w.cell? ⟨g, 3, none⟩ = some (.slice A1 st.cell.labels.length c1) := HP.out.bk.cell 3
  have fz := HP.out.bk.frozen
  have hL0 : 0 < n := by omega
  have Hg := HP.out.hg
  have Hgl := HP.out.bk.lt
  have hBw : B ≤ w.heap.size := by omega
  have hOs := hO.l
  have hOn := hO.n
  have hlen : st.cell.labels.length ≤ 1000000 := by omega
  have Hap : Hid (Apart3 (ps.map Prod.snd ++ [⟨uS, (.slice A1 st.cell.labels.length c1), uI⟩])) := Lib.hid (by have h := HP.out.apart; rwa [if_pos hop] at h)
  have bb : Hid (Below w.heap.size w (w.alloc (.cells #[.int .i64 a0, .int .i64 a1, .int .i64 a2, .string x1] 67)).drew) := Lib.hid ((Below.refl w.heap.size w).alloc (Nat.le_refl _) _).drew
  have KB0 : Hid (Bk (w.alloc (.cells #[.int .i64 a0, .int .i64 a1, .int .i64 a2, .string x1] 67)).drew w.heap.size 67 #[.int .i64 a0, .int .i64 a1, .int .i64 a2, .string x1]) := Lib.hid (Bk.new w 67 #[.int .i64 a0, .int .i64 a1, .int .i64 a2, .string x1]).drew
  clear hP hW h0 hx0 hI hcv h4 hx1 hA hO
  go_enter Tryz.func64, Tryz.ntmps64
  go_wp2
  go_region
  generalize (w.alloc (.cells #[.int .i64 a0, .int .i64 a1, .int .i64 a2, .string x1] 67)).drew = w0 at *
  have fz0 : ∀ i : Nat, w0.frozen? ⟨g, i, none⟩ = false := fun i => (bb.out.frozen (p := ⟨g, i, none⟩) Hgl).trans (fz i)
  have c0 : w0.cell? ⟨g, 0, none⟩ = some (.slice A9 st.done.length c9) := (bb.out.cell (p := ⟨g, 0, none⟩) Hgl).trans b0
  have c3 : w0.cell? ⟨g, 3, none⟩ = some (.slice A1 st.cell.labels.length c1) := (bb.out.cell (p := ⟨g, 3, none⟩) Hgl).trans b3
  have d0 : w0.cell? ⟨gw, 0, none⟩ = some (.string kwLabel) := (bb.out.cell (p := ⟨gw, 0, none⟩) hgw).trans cw0
  have hz0 : w.heap.size < w0.heap.size := KB0.out.lt
  have s0 : w0.cell? ⟨w.heap.size, 0, none⟩ = some (.int .i64 a0) := KB0.out.cell 0
  have s1 : w0.cell? ⟨w.heap.size, 1, none⟩ = some (.int .i64 a1) := KB0.out.cell 1
  have s2 : w0.cell? ⟨w.heap.size, 2, none⟩ = some (.int .i64 a2) := KB0.out.cell 2
  have s3 : w0.cell? ⟨w.heap.size, 3, none⟩ = some (.string x1) := KB0.out.cell 3
  rcases Decidable.em (st.cell.labels.length = 8) with h24 | h24
  · have Hv : Hid (takeV st .label ws [a0, a1, a2, a3] = (3, st)) := Lib.hid (takeV_label_lim ws [a0, a1, a2, a3] h24)
    have h24p : (st.cell.labels.length : Int) = 8 := by omega
    clear h24
    go_wp2
    go_ret
    exact ⟨_, _, _, _, _, rfl, Hv, HP.out.on bb.out, bb.out.mono hBw, (KeepI.refl _).on bb.out⟩
  · have h24p : ¬ (st.cell.labels.length : Int) = 8 := by omega
    have h24q : ((st.cell.labels.length : Int) == 8) = false := by simpa using h24p
    cases hok : labelB ⟨a0, a1, a2, x1⟩ with
    | false =>
      have Hv : Hid (takeV st .label ws [a0, a1, a2, a3] = (1, st)) := Lib.hid (by
        have h : labelB (labelOf ws [a0, a1, a2, a3]) = false := by unfold labelOf; rw [H4.out]; exact hok
        exact takeV_label_bad h24 h)
      clear h24
      go_wp2_with fail
      refine (label_impl ⟨a0, a1, a2, x1⟩ _ hnm).mono ?_
      rintro e w1 ⟨rfl, hb1⟩
      rw [hok]
      go_wp2
      go_ret
      have b1 := bb.out.trans (hb1.mono bb.out.size)
      exact ⟨_, _, _, _, _, rfl, Hv, HP.out.on b1, b1.mono hBw, (KeepI.refl _).on b1⟩
    | true =>
      obtain ⟨st', hst'⟩ : ∃ st' : PS, st' = { st with cell := { st.cell with labels := st.cell.labels ++ [⟨a0, a1, a2, x1⟩] } } := ⟨_, rfl⟩
      have Hv : Hid (takeV st .label ws [a0, a1, a2, a3] = (0, st')) := Lib.hid (by
        have e : labelOf ws [a0, a1, a2, a3] = ⟨a0, a1, a2, x1⟩ := by unfold labelOf; rw [H4.out]; rfl
        have h : labelB (labelOf ws [a0, a1, a2, a3]) = true := by rw [e]; exact hok
        rw [hst']
        rw [takeV_label_ok h24 h, e])
      have HST := Lib.hid hst'
      clear h24 hst'
      go_wp2_with fail
      refine (label_impl ⟨a0, a1, a2, x1⟩ _ hnm).mono ?_
      rintro e w1 ⟨rfl, hb1⟩
      rw [hok]
      have BB := Lib.hid (bb.out.trans (hb1.mono bb.out.size))
      have KB := KB0.out.on hb1
      have t0 : w1.cell? ⟨w.heap.size, 0, none⟩ = some (.int .i64 a0) := KB.cell 0
      have t1 : w1.cell? ⟨w.heap.size, 1, none⟩ = some (.int .i64 a1) := KB.cell 1
      have t2 : w1.cell? ⟨w.heap.size, 2, none⟩ = some (.int .i64 a2) := KB.cell 2
      have t3 : w1.cell? ⟨w.heap.size, 3, none⟩ = some (.string x1) := KB.cell 3
      have g3 : w1.cell? ⟨g, 3, none⟩ = some (.slice A1 st.cell.labels.length c1) := (BB.out.cell (p := ⟨g, 3, none⟩) Hgl).trans b3
      have hz1 : w.heap.size < w1.heap.size := KB.lt
      have hBw1 : B ≤ w1.heap.size := by omega
      have Hgl1 : g < w1.heap.size := by omega
      clear s0 s1 s2 s3 v0 v1 v2 c0 c3 d0 b0 b3 cw0 cw4 fz fz0 h24p h24q hok
      have HK := Lib.hid (HP.out.pk.on (BB.out.trans (((Below.refl w1.heap.size w1).alloc (Nat.le_refl _) (.cells #[.int .i64 a0, .int .i64 a1, .int .i64 a2, .string x1] 67)).drew.mono (by omega))))
      clear KB hb1
      go_wp2
      go_region_law (refine step_append_F (t := 67) (n := 4) (enc := LabelD.vals) rfl (.tmp 188) (.tmp 190) 43 40 _ infoLabel Tryz.underlying43 rfl (by decide) (by decide) rfl B (.slice A1 st.cell.labels.length c1) st.cell.labels ⟨a0, a1, a2, x1⟩ rfl HK.out.cur.l rfl (labelV_one _) w1.heap.size rfl (Bk.new w1 _ _).drew hlen (by simp; omega) ?_; intro v' w2 k1 k2 k3; obtain ⟨Av, cw, hv', -, -⟩ := k1.form; rw [List.length_append, List.length_singleton] at hv'; subst hv'; (have KG := HK.out.grow (e := 67) (u' := ⟨uS, (.slice Av (st.cell.labels.length + 1) cw), uI⟩) (c' := { st.cell with labels := st.cell.labels ++ [⟨a0, a1, a2, x1⟩] }) Hap.out (by decide) (by decide) (fun b hb => .inr (.inl hb)) HK.out.cur.l k2 k3 (fun b hb => by rcases hb with h | h | h; exact .inl (.inl h); exact .inr h; exact .inl (.inr (.inr h))) ⟨World.ownsRow.kept HK.out.cur.s k2 (own_types HK.out.cur.s HK.out.cur.l (by decide)), k1, World.ownsRow.kept HK.out.cur.i k2 (own_types HK.out.cur.i HK.out.cur.l (by decide))⟩); have f0 := KG.1.bk.frozen; (have d3 : w2.cell? ⟨g, 3, none⟩ = some (.slice A1 st.cell.labels.length c1) := KG.1.bk.cell 3); have K1 := Lib.hid KG; clear KG k1 k2 k3)
      go_wp2
      all_goals
        go_ret
        have k := K1.out.1.put tyI.1 tyI.2 3 (.slice Av (st.cell.labels.length + 1) cw)
        exact ⟨0, st', _, ps, ⟨uS, (.slice Av (st.cell.labels.length + 1) cw), uI⟩, rfl, Hv, by
          rw [HST.out]
          exact ⟨k.bk, HP.out.eq, k.lib, k.cur, by
            show Apart3 (_ ++ if st.op = true then _ else _)
            rw [if_pos hop]
            exact K1.out.2, k.hg⟩, k.bel, k.ints⟩


end Go.Proofs.YtcckamhokdodnaaGreatDoor
