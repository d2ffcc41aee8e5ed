/- The program's take: lines of records. Conditions: the parser's state lies in memory; the words and the numbers of a line that begins with the keyword. The program's take: lines of records. Conditions: the parser's state lies in memory; the words and the numbers of a line that begins with the keyword. Taking a line, of the program, for every keyword. No conditions. -/
import Derived.Test.YtcckamhokdodnaaGreatDoorTakeRL
import Derived.StillTailTactics
import Derived.BigRegion
import Derived.Deep.RegionHeld3
import Derived.Test.YtcckamhokdodnaaGreatDoorLineA
namespace Go.Proofs.YtcckamhokdodnaaGreatDoor
open Go.RowKit

set_option maxHeartbeats 3200000 in
set_option maxRecDepth 100000 in
theorem take_place_impl (A : Option Addr) (n c : Nat) (B2 : Option Addr) (m2 c2 : Nat) (ws : List ByteArray) (a0 a1 a2 a3 : Int) (B g : Nat) (st : PS) (cv : Value) (ps : List (CellD × Sl3)) (u : Sl3) (w : World) (hP : PMi w B g st cv ps u) (hO : StOk st)
    (hW : SL w 0 (.slice A n c) ws) (hn : n = ws.length) (h0 : ws[0]? = some kwPlace) (hop : st.op = true) (hI : IL w 0 (.slice B2 m2 c2) [a0, a1, a2, a3]) :
    Calls Tryz.prog 64 #[.pointer (some ⟨g, 0, none⟩), .slice A n c, .slice B2 m2 c2] w (TakeAns 83 pvI st .place ws [a0, a1, a2, a3] B g w) := by
  obtain ⟨uS, uL, uI⟩ := u
  obtain ⟨A9, c9, ecv, -, hm9⟩ := hP.lib.form
  rw [hP.len] at ecv
  subst ecv
  obtain ⟨A1, c1, e1, -, hm1⟩ := hP.cur.i.form
  dsimp only at e1
  subst e1
  obtain ⟨gv, rfl, hgv, e2, hcv⟩ := ints_at hI (by simp)
  obtain rfl : m2 = 4 := e2
  have v0 : w.cell? ⟨gv, 0, none⟩ = some (.int .i64 a0) := hcv 0 _ rfl
  have v1 : w.cell? ⟨gv, 1, none⟩ = some (.int .i64 a1) := hcv 1 _ rfl
  have v2 : w.cell? ⟨gv, 2, none⟩ = some (.int .i64 a2) := hcv 2 _ rfl
  have v3 : w.cell? ⟨gv, 3, none⟩ = some (.int .i64 a3) := hcv 3 _ rfl
  have hl1 : 0 < ws.length := (List.getElem?_eq_some_iff.1 h0).1
  obtain ⟨gw, x0, rfl, hx0, -, hgw, cw0⟩ := hW.elem (k := 0) hl1
  obtain rfl : x0 = kwPlace := by rw [h0] at hx0; exact (Option.some.inj hx0).symm
  have Hlen := Lib.hid hP.len
  have HP := Lib.hid hP
  have b0 : w.cell? ⟨g, 0, none⟩ = some (.slice A9 st.done.length c9) := HP.out.bk.cell 0
  have b4 : w.cell? ⟨g, 4, none⟩ = some (.slice A1 st.cell.insts.length c1) := HP.out.bk.cell 4
  have fz := HP.out.bk.frozen
  have hL0 : 0 < n := by omega
  have Hg := HP.out.hg
  have Hgl := HP.out.bk.lt
  have hBw : B ≤ w.heap.size := by omega
  have hOs := hO.i
  have hOn := hO.n
  have hlen : st.cell.insts.length ≤ 1000000 := by omega
  have Hap : Hid (Apart3 (ps.map Prod.snd ++ [⟨uS, uL, (.slice A1 st.cell.insts.length c1)⟩])) := Lib.hid (by have h := HP.out.apart; rwa [if_pos hop] at h)
  have bb : Hid (Below w.heap.size w (w.alloc (.cells #[.int .i64 a0, .int .i64 a1, .int .i64 a2, .int .i64 a3, .int .i64 1, .int .i64 1, .int .i64 0, .int .i64 0] 72)).drew) := Lib.hid ((Below.refl w.heap.size w).alloc (Nat.le_refl _) _).drew
  have KB0 : Hid (Bk (w.alloc (.cells #[.int .i64 a0, .int .i64 a1, .int .i64 a2, .int .i64 a3, .int .i64 1, .int .i64 1, .int .i64 0, .int .i64 0] 72)).drew w.heap.size 72 #[.int .i64 a0, .int .i64 a1, .int .i64 a2, .int .i64 a3, .int .i64 1, .int .i64 1, .int .i64 0, .int .i64 0]) := Lib.hid (Bk.new w 72 #[.int .i64 a0, .int .i64 a1, .int .i64 a2, .int .i64 a3, .int .i64 1, .int .i64 1, .int .i64 0, .int .i64 0]).drew
  clear hP hW h0 hx0 hI hcv hO
  have HSS : Hid (∀ W : World, Below w.heap.size w W → W.cell? ⟨gv, 0, none⟩ = some (.int .i64 a0) ∧ W.cell? ⟨gv, 1, none⟩ = some (.int .i64 a1) ∧ W.cell? ⟨gv, 2, none⟩ = some (.int .i64 a2) ∧ W.cell? ⟨gv, 3, none⟩ = some (.int .i64 a3)) := Lib.hid fun W hW => ⟨(hW.cell (p := ⟨gv, 0, none⟩) hgv).trans v0, (hW.cell (p := ⟨gv, 1, none⟩) hgv).trans v1, (hW.cell (p := ⟨gv, 2, none⟩) hgv).trans v2, (hW.cell (p := ⟨gv, 3, none⟩) hgv).trans v3⟩
  go_enter Tryz.func64, Tryz.ntmps64
  go_wp2
  go_region_held3 (fun w' => w'.cell? ⟨gv, 0, none⟩ = some (.int .i64 a0) ∧ w'.cell? ⟨gv, 1, none⟩ = some (.int .i64 a1) ∧ w'.cell? ⟨gv, 2, none⟩ = some (.int .i64 a2) ∧ w'.cell? ⟨gv, 3, none⟩ = some (.int .i64 a3)) (first | (with_reducible exact HSS.out _ (Below.refl _ _)) | (with_reducible exact HSS.out _ (Below.refl _ _).drew) | (with_reducible exact HSS.out _ ((Below.refl _ _).alloc (Nat.le_refl _) _)) | (with_reducible exact HSS.out _ ((Below.refl _ _).alloc (Nat.le_refl _) _).drew)) (fail)
  clear HSS
  generalize (w.alloc (.cells #[.int .i64 a0, .int .i64 a1, .int .i64 a2, .int .i64 a3, .int .i64 1, .int .i64 1, .int .i64 0, .int .i64 0] 72)).drew = w0 at *
  have fz0 : ∀ i : Nat, w0.frozen? ⟨g, i, none⟩ = false := fun i => (bb.out.frozen (p := ⟨g, i, none⟩) Hgl).trans (fz i)
  have c0 : w0.cell? ⟨g, 0, none⟩ = some (.slice A9 st.done.length c9) := (bb.out.cell (p := ⟨g, 0, none⟩) Hgl).trans b0
  have c4 : w0.cell? ⟨g, 4, none⟩ = some (.slice A1 st.cell.insts.length c1) := (bb.out.cell (p := ⟨g, 4, none⟩) Hgl).trans b4
  have d0 : w0.cell? ⟨gw, 0, none⟩ = some (.string kwPlace) := (bb.out.cell (p := ⟨gw, 0, none⟩) hgw).trans cw0
  have hz0 : w.heap.size < w0.heap.size := KB0.out.lt
  have s0 : w0.cell? ⟨w.heap.size, 0, none⟩ = some (.int .i64 a0) := KB0.out.cell 0
  have s1 : w0.cell? ⟨w.heap.size, 1, none⟩ = some (.int .i64 a1) := KB0.out.cell 1
  have s2 : w0.cell? ⟨w.heap.size, 2, none⟩ = some (.int .i64 a2) := KB0.out.cell 2
  have s3 : w0.cell? ⟨w.heap.size, 3, none⟩ = some (.int .i64 a3) := KB0.out.cell 3
  have s4 : w0.cell? ⟨w.heap.size, 4, none⟩ = some (.int .i64 1) := KB0.out.cell 4
  have s5 : w0.cell? ⟨w.heap.size, 5, none⟩ = some (.int .i64 1) := KB0.out.cell 5
  have s6 : w0.cell? ⟨w.heap.size, 6, none⟩ = some (.int .i64 0) := KB0.out.cell 6
  have s7 : w0.cell? ⟨w.heap.size, 7, none⟩ = some (.int .i64 0) := KB0.out.cell 7
  rcases Decidable.em (st.cell.insts.length = 8) with h24 | h24
  · have Hv : Hid (takeV st .place ws [a0, a1, a2, a3] = (3, st)) := Lib.hid (takeV_place_lim ws [a0, a1, a2, a3] h24)
    have h24p : (st.cell.insts.length : Int) = 8 := by omega
    clear h24
    go_wp2
    go_ret
    exact ⟨_, _, _, _, _, rfl, Hv, HP.out.on bb.out, bb.out.mono hBw, (KeepI.refl _).on bb.out⟩
  · have h24p : ¬ (st.cell.insts.length : Int) = 8 := by omega
    have h24q : ((st.cell.insts.length : Int) == 8) = false := by simpa using h24p
    cases hok : instB ⟨a0, a1, a2, a3, 1, 1, 0, 0⟩ st.done.length with
    | false =>
      have Hv : Hid (takeV st .place ws [a0, a1, a2, a3] = (1, st)) := Lib.hid (by
        have h : instB (instOf .place [a0, a1, a2, a3]) st.done.length = false := hok
        exact takeV_place_bad h24 h)
      clear h24
      go_wp2
      go_still_tail 7, (by kernel_rfl)
      change wpList _ _ _ _ _ w0.drew
      go_wp2_with (go_at_call 82; refine (inst_impl ⟨a0, a1, a2, a3, 1, 1, 0, 0⟩ (st.done.length : Int) _ ⟨by omega, by omega⟩).mono ?_; rintro e w1 ⟨rfl, hb1⟩; rw [hok])
      go_ret
      have b1 := bb.out.drew.trans (hb1.mono bb.out.drew.size)
      exact ⟨_, _, _, _, _, rfl, Hv, HP.out.on b1, b1.mono hBw, (KeepI.refl _).on b1⟩
    | true =>
      obtain ⟨st', hst'⟩ : ∃ st' : PS, st' = { st with cell := { st.cell with insts := st.cell.insts ++ [⟨a0, a1, a2, a3, 1, 1, 0, 0⟩] } } := ⟨_, rfl⟩
      have Hv : Hid (takeV st .place ws [a0, a1, a2, a3] = (0, st')) := Lib.hid (by
        have e : instOf .place [a0, a1, a2, a3] = ⟨a0, a1, a2, a3, 1, 1, 0, 0⟩ := rfl
        have h : instB (instOf .place [a0, a1, a2, a3]) st.done.length = true := by rw [e]; exact hok
        rw [hst']
        rw [takeV_place_ok h24 h, e])
      have HST := Lib.hid hst'
      clear h24 hst'
      go_wp2
      go_still_tail 7, (by kernel_rfl)
      change wpList _ _ _ _ _ w0.drew
      go_wp2_with (go_at_call 82; refine (inst_impl ⟨a0, a1, a2, a3, 1, 1, 0, 0⟩ (st.done.length : Int) _ ⟨by omega, by omega⟩).mono ?_; rintro e w1 ⟨rfl, hb1⟩; rw [hok])
      have BB := Lib.hid (bb.out.drew.trans (hb1.mono bb.out.drew.size))
      have KB := KB0.out.drew.on hb1
      have t0 : w1.cell? ⟨w.heap.size, 0, none⟩ = some (.int .i64 a0) := KB.cell 0
      have t1 : w1.cell? ⟨w.heap.size, 1, none⟩ = some (.int .i64 a1) := KB.cell 1
      have t2 : w1.cell? ⟨w.heap.size, 2, none⟩ = some (.int .i64 a2) := KB.cell 2
      have t3 : w1.cell? ⟨w.heap.size, 3, none⟩ = some (.int .i64 a3) := KB.cell 3
      have t4 : w1.cell? ⟨w.heap.size, 4, none⟩ = some (.int .i64 1) := KB.cell 4
      have t5 : w1.cell? ⟨w.heap.size, 5, none⟩ = some (.int .i64 1) := KB.cell 5
      have t6 : w1.cell? ⟨w.heap.size, 6, none⟩ = some (.int .i64 0) := KB.cell 6
      have t7 : w1.cell? ⟨w.heap.size, 7, none⟩ = some (.int .i64 0) := KB.cell 7
      have g4 : w1.cell? ⟨g, 4, none⟩ = some (.slice A1 st.cell.insts.length c1) := (BB.out.cell (p := ⟨g, 4, none⟩) Hgl).trans b4
      have hz1 : w.heap.size < w1.heap.size := KB.lt
      have hBw1 : B ≤ w1.heap.size := by omega
      have Hgl1 : g < w1.heap.size := by omega
      clear s0 s1 s2 s3 s4 s5 s6 s7 v0 v1 v2 v3 c0 c4 d0 b0 b4 cw0 fz fz0 h24p h24q hok
      have HK := Lib.hid (HP.out.pk.on (BB.out.trans (((Below.refl w1.heap.size w1).alloc (Nat.le_refl _) (.cells #[.int .i64 a0, .int .i64 a1, .int .i64 a2, .int .i64 a3, .int .i64 1, .int .i64 1, .int .i64 0, .int .i64 0] 72)).drew.mono (by omega))))
      clear KB hb1
      go_wp2
      go_region_law (refine step_append_F (t := 72) (n := 8) (enc := InstD.vals) rfl (.tmp 72) (.tmp 74) 44 64 _ infoInstance Tryz.underlying44 rfl (by decide) (by decide) rfl B (.slice A1 st.cell.insts.length c1) st.cell.insts ⟨a0, a1, a2, a3, 1, 1, 0, 0⟩ rfl HK.out.cur.i rfl (instV_one _) w1.heap.size rfl (Bk.new w1 _ _).drew hlen (by simp; omega) ?_; intro v' w2 k1 k2 k3; obtain ⟨Av, cw, hv', -, -⟩ := k1.form; rw [List.length_append, List.length_singleton] at hv'; subst hv'; (have KG := HK.out.grow (e := 72) (u' := ⟨uS, uL, (.slice Av (st.cell.insts.length + 1) cw)⟩) (c' := { st.cell with insts := st.cell.insts ++ [⟨a0, a1, a2, a3, 1, 1, 0, 0⟩] }) Hap.out (by decide) (by decide) (fun b hb => .inr (.inr hb)) HK.out.cur.i k2 k3 (fun b hb => by rcases hb with h | h | h; exact .inl (.inl h); exact .inl (.inr (.inl h)); exact .inr h) ⟨World.ownsRow.kept HK.out.cur.s k2 (own_types HK.out.cur.s HK.out.cur.i (by decide)), World.ownsRow.kept HK.out.cur.l k2 (own_types HK.out.cur.l HK.out.cur.i (by decide)), k1⟩); have f0 := KG.1.bk.frozen; (have d4 : w2.cell? ⟨g, 4, none⟩ = some (.slice A1 st.cell.insts.length c1) := KG.1.bk.cell 4); have K1 := Lib.hid KG; clear KG k1 k2 k3)
      go_wp2
      all_goals
        go_ret
        have k := K1.out.1.put tyI.1 tyI.2 4 (.slice Av (st.cell.insts.length + 1) cw)
        exact ⟨0, st', _, ps, ⟨uS, uL, (.slice Av (st.cell.insts.length + 1) cw)⟩, rfl, Hv, by
          rw [HST.out]
          exact ⟨k.bk, HP.out.eq, k.lib, k.cur, by
            show Apart3 (_ ++ if st.op = true then _ else _)
            rw [if_pos hop]
            exact K1.out.2, k.hg⟩, k.bel, k.ints⟩


end Go.Proofs.YtcckamhokdodnaaGreatDoor

namespace Go.Proofs.YtcckamhokdodnaaGreatDoor
open Go.RowKit

set_option maxHeartbeats 3200000 in
set_option maxRecDepth 100000 in
theorem take_array_impl (A : Option Addr) (n c : Nat) (B2 : Option Addr) (m2 c2 : Nat) (ws : List ByteArray) (a0 a1 a2 a3 a4 a5 a6 a7 : Int) (B g : Nat) (st : PS) (cv : Value) (ps : List (CellD × Sl3)) (u : Sl3) (w : World) (hP : PMi w B g st cv ps u) (hO : StOk st)
    (hW : SL w 0 (.slice A n c) ws) (hn : n = ws.length) (h0 : ws[0]? = some kwArray) (hop : st.op = true) (hI : IL w 0 (.slice B2 m2 c2) [a0, a1, a2, a3, a4, a5, a6, a7]) :
    Calls Tryz.prog 64 #[.pointer (some ⟨g, 0, none⟩), .slice A n c, .slice B2 m2 c2] w (TakeAns 83 pvI st .array ws [a0, a1, a2, a3, a4, a5, a6, a7] B g w) := by
  obtain ⟨uS, uL, uI⟩ := u
  obtain ⟨A9, c9, ecv, -, hm9⟩ := hP.lib.form
  rw [hP.len] at ecv
  subst ecv
  obtain ⟨A1, c1, e1, -, hm1⟩ := hP.cur.i.form
  dsimp only at e1
  subst e1
  obtain ⟨gv, rfl, hgv, e2, hcv⟩ := ints_at hI (by simp)
  obtain rfl : m2 = 8 := e2
  have v0 : w.cell? ⟨gv, 0, none⟩ = some (.int .i64 a0) := hcv 0 _ rfl
  have v1 : w.cell? ⟨gv, 1, none⟩ = some (.int .i64 a1) := hcv 1 _ rfl
  have v2 : w.cell? ⟨gv, 2, none⟩ = some (.int .i64 a2) := hcv 2 _ rfl
  have v3 : w.cell? ⟨gv, 3, none⟩ = some (.int .i64 a3) := hcv 3 _ rfl
  have v4 : w.cell? ⟨gv, 4, none⟩ = some (.int .i64 a4) := hcv 4 _ rfl
  have v5 : w.cell? ⟨gv, 5, none⟩ = some (.int .i64 a5) := hcv 5 _ rfl
  have v6 : w.cell? ⟨gv, 6, none⟩ = some (.int .i64 a6) := hcv 6 _ rfl
  have v7 : w.cell? ⟨gv, 7, none⟩ = some (.int .i64 a7) := hcv 7 _ rfl
  have hl1 : 0 < ws.length := (List.getElem?_eq_some_iff.1 h0).1
  obtain ⟨gw, x0, rfl, hx0, -, hgw, cw0⟩ := hW.elem (k := 0) hl1
  obtain rfl : x0 = kwArray := by rw [h0] at hx0; exact (Option.some.inj hx0).symm
  have Hlen := Lib.hid hP.len
  have HP := Lib.hid hP
  have b0 : w.cell? ⟨g, 0, none⟩ = some (.slice A9 st.done.length c9) := HP.out.bk.cell 0
  have b4 : w.cell? ⟨g, 4, none⟩ = some (.slice A1 st.cell.insts.length c1) := HP.out.bk.cell 4
  have fz := HP.out.bk.frozen
  have hL0 : 0 < n := by omega
  have Hg := HP.out.hg
  have Hgl := HP.out.bk.lt
  have hBw : B ≤ w.heap.size := by omega
  have hOs := hO.i
  have hOn := hO.n
  have hlen : st.cell.insts.length ≤ 1000000 := by omega
  have Hap : Hid (Apart3 (ps.map Prod.snd ++ [⟨uS, uL, (.slice A1 st.cell.insts.length c1)⟩])) := Lib.hid (by have h := HP.out.apart; rwa [if_pos hop] at h)
  have bb : Hid (Below w.heap.size w (w.alloc (.cells #[.int .i64 a0, .int .i64 a1, .int .i64 a2, .int .i64 a3, .int .i64 1, .int .i64 1, .int .i64 0, .int .i64 0] 72)).drew) := Lib.hid ((Below.refl w.heap.size w).alloc (Nat.le_refl _) _).drew
  have KB0 : Hid (Bk (w.alloc (.cells #[.int .i64 a0, .int .i64 a1, .int .i64 a2, .int .i64 a3, .int .i64 1, .int .i64 1, .int .i64 0, .int .i64 0] 72)).drew w.heap.size 72 #[.int .i64 a0, .int .i64 a1, .int .i64 a2, .int .i64 a3, .int .i64 1, .int .i64 1, .int .i64 0, .int .i64 0]) := Lib.hid (Bk.new w 72 #[.int .i64 a0, .int .i64 a1, .int .i64 a2, .int .i64 a3, .int .i64 1, .int .i64 1, .int .i64 0, .int .i64 0]).drew
  clear hP hW h0 hx0 hI hcv hO
  have HSS : Hid (∀ W : World, Below w.heap.size w W → W.cell? ⟨gv, 0, none⟩ = some (.int .i64 a0) ∧ W.cell? ⟨gv, 1, none⟩ = some (.int .i64 a1) ∧ W.cell? ⟨gv, 2, none⟩ = some (.int .i64 a2) ∧ W.cell? ⟨gv, 3, none⟩ = some (.int .i64 a3)) := Lib.hid fun W hW => ⟨(hW.cell (p := ⟨gv, 0, none⟩) hgv).trans v0, (hW.cell (p := ⟨gv, 1, none⟩) hgv).trans v1, (hW.cell (p := ⟨gv, 2, none⟩) hgv).trans v2, (hW.cell (p := ⟨gv, 3, none⟩) hgv).trans v3⟩
  go_enter Tryz.func64, Tryz.ntmps64
  go_wp2
  go_region_held3 (fun w' => w'.cell? ⟨gv, 0, none⟩ = some (.int .i64 a0) ∧ w'.cell? ⟨gv, 1, none⟩ = some (.int .i64 a1) ∧ w'.cell? ⟨gv, 2, none⟩ = some (.int .i64 a2) ∧ w'.cell? ⟨gv, 3, none⟩ = some (.int .i64 a3)) (first | (with_reducible exact HSS.out _ (Below.refl _ _)) | (with_reducible exact HSS.out _ (Below.refl _ _).drew) | (with_reducible exact HSS.out _ ((Below.refl _ _).alloc (Nat.le_refl _) _)) | (with_reducible exact HSS.out _ ((Below.refl _ _).alloc (Nat.le_refl _) _).drew)) (fail)
  clear HSS
  generalize (w.alloc (.cells #[.int .i64 a0, .int .i64 a1, .int .i64 a2, .int .i64 a3, .int .i64 1, .int .i64 1, .int .i64 0, .int .i64 0] 72)).drew = w0 at *
  have fz0 : ∀ i : Nat, w0.frozen? ⟨g, i, none⟩ = false := fun i => (bb.out.frozen (p := ⟨g, i, none⟩) Hgl).trans (fz i)
  have c0 : w0.cell? ⟨g, 0, none⟩ = some (.slice A9 st.done.length c9) := (bb.out.cell (p := ⟨g, 0, none⟩) Hgl).trans b0
  have c4 : w0.cell? ⟨g, 4, none⟩ = some (.slice A1 st.cell.insts.length c1) := (bb.out.cell (p := ⟨g, 4, none⟩) Hgl).trans b4
  have d0 : w0.cell? ⟨gw, 0, none⟩ = some (.string kwArray) := (bb.out.cell (p := ⟨gw, 0, none⟩) hgw).trans cw0
  have u0 : w0.cell? ⟨gv, 0, none⟩ = some (.int .i64 a0) := (bb.out.cell (p := ⟨gv, 0, none⟩) hgv).trans v0
  have u1 : w0.cell? ⟨gv, 1, none⟩ = some (.int .i64 a1) := (bb.out.cell (p := ⟨gv, 1, none⟩) hgv).trans v1
  have u2 : w0.cell? ⟨gv, 2, none⟩ = some (.int .i64 a2) := (bb.out.cell (p := ⟨gv, 2, none⟩) hgv).trans v2
  have u3 : w0.cell? ⟨gv, 3, none⟩ = some (.int .i64 a3) := (bb.out.cell (p := ⟨gv, 3, none⟩) hgv).trans v3
  have u4 : w0.cell? ⟨gv, 4, none⟩ = some (.int .i64 a4) := (bb.out.cell (p := ⟨gv, 4, none⟩) hgv).trans v4
  have u5 : w0.cell? ⟨gv, 5, none⟩ = some (.int .i64 a5) := (bb.out.cell (p := ⟨gv, 5, none⟩) hgv).trans v5
  have u6 : w0.cell? ⟨gv, 6, none⟩ = some (.int .i64 a6) := (bb.out.cell (p := ⟨gv, 6, none⟩) hgv).trans v6
  have u7 : w0.cell? ⟨gv, 7, none⟩ = some (.int .i64 a7) := (bb.out.cell (p := ⟨gv, 7, none⟩) hgv).trans v7
  have hz0 : w.heap.size < w0.heap.size := KB0.out.lt
  have z0 : w0.cell? ⟨w.heap.size, 0, none⟩ = some (.int .i64 a0) := KB0.out.cell 0
  have z1 : w0.cell? ⟨w.heap.size, 1, none⟩ = some (.int .i64 a1) := KB0.out.cell 1
  have z2 : w0.cell? ⟨w.heap.size, 2, none⟩ = some (.int .i64 a2) := KB0.out.cell 2
  have z3 : w0.cell? ⟨w.heap.size, 3, none⟩ = some (.int .i64 a3) := KB0.out.cell 3
  have z4 : w0.cell? ⟨w.heap.size, 4, none⟩ = some (.int .i64 1) := KB0.out.cell 4
  have z5 : w0.cell? ⟨w.heap.size, 5, none⟩ = some (.int .i64 1) := KB0.out.cell 5
  have z6 : w0.cell? ⟨w.heap.size, 6, none⟩ = some (.int .i64 0) := KB0.out.cell 6
  have z7 : w0.cell? ⟨w.heap.size, 7, none⟩ = some (.int .i64 0) := KB0.out.cell 7
  have fzs : ∀ i : Nat, w0.frozen? ⟨w.heap.size, i, none⟩ = false := KB0.out.frozen
  have HSS : Hid (∀ W : World, Below w.heap.size w W → W.cell? ⟨gv, 4, none⟩ = some (.int .i64 a4) ∧ W.cell? ⟨gv, 5, none⟩ = some (.int .i64 a5) ∧ W.cell? ⟨gv, 6, none⟩ = some (.int .i64 a6) ∧ W.cell? ⟨gv, 7, none⟩ = some (.int .i64 a7)) := Lib.hid fun W hW => ⟨(hW.cell (p := ⟨gv, 4, none⟩) hgv).trans v4, (hW.cell (p := ⟨gv, 5, none⟩) hgv).trans v5, (hW.cell (p := ⟨gv, 6, none⟩) hgv).trans v6, (hW.cell (p := ⟨gv, 7, none⟩) hgv).trans v7⟩
  have X3 : Hid (Below w.heap.size w w0) := Lib.hid bb.out
  have X4 : Hid (Below w.heap.size w (w0.setCell ⟨w.heap.size, 4, none⟩ (.int .i64 a4))) := Lib.hid (bb.out.setCell (p := ⟨w.heap.size, 4, none⟩) (Nat.le_refl _) (.int .i64 a4))
  have X5 : Hid (Below w.heap.size w ((w0.setCell ⟨w.heap.size, 4, none⟩ (.int .i64 a4)).setCell ⟨w.heap.size, 5, none⟩ (.int .i64 a5))) := Lib.hid ((bb.out.setCell (p := ⟨w.heap.size, 4, none⟩) (Nat.le_refl _) (.int .i64 a4)).setCell (p := ⟨w.heap.size, 5, none⟩) (Nat.le_refl _) (.int .i64 a5))
  have X6 : Hid (Below w.heap.size w (((w0.setCell ⟨w.heap.size, 4, none⟩ (.int .i64 a4)).setCell ⟨w.heap.size, 5, none⟩ (.int .i64 a5)).setCell ⟨w.heap.size, 6, none⟩ (.int .i64 a6))) := Lib.hid (((bb.out.setCell (p := ⟨w.heap.size, 4, none⟩) (Nat.le_refl _) (.int .i64 a4)).setCell (p := ⟨w.heap.size, 5, none⟩) (Nat.le_refl _) (.int .i64 a5)).setCell (p := ⟨w.heap.size, 6, none⟩) (Nat.le_refl _) (.int .i64 a6))
  have X7 : Hid (Below w.heap.size w ((((w0.setCell ⟨w.heap.size, 4, none⟩ (.int .i64 a4)).setCell ⟨w.heap.size, 5, none⟩ (.int .i64 a5)).setCell ⟨w.heap.size, 6, none⟩ (.int .i64 a6)).setCell ⟨w.heap.size, 7, none⟩ (.int .i64 a7))) := Lib.hid ((((bb.out.setCell (p := ⟨w.heap.size, 4, none⟩) (Nat.le_refl _) (.int .i64 a4)).setCell (p := ⟨w.heap.size, 5, none⟩) (Nat.le_refl _) (.int .i64 a5)).setCell (p := ⟨w.heap.size, 6, none⟩) (Nat.le_refl _) (.int .i64 a6)).setCell (p := ⟨w.heap.size, 7, none⟩) (Nat.le_refl _) (.int .i64 a7))
  go_wp2
  go_region_held3 (fun w' => w'.cell? ⟨gv, 4, none⟩ = some (.int .i64 a4) ∧ w'.cell? ⟨gv, 5, none⟩ = some (.int .i64 a5) ∧ w'.cell? ⟨gv, 6, none⟩ = some (.int .i64 a6) ∧ w'.cell? ⟨gv, 7, none⟩ = some (.int .i64 a7)) (first | (with_reducible exact HSS.out _ X3.out) | (with_reducible exact HSS.out _ X4.out) | (with_reducible exact HSS.out _ X5.out) | (with_reducible exact HSS.out _ X6.out) | (with_reducible exact HSS.out _ X3.out.drew) | (with_reducible exact HSS.out _ X4.out.drew) | (with_reducible exact HSS.out _ X5.out.drew) | (with_reducible exact HSS.out _ X6.out.drew) | (with_reducible exact HSS.out _ X7.out.drew)) (fail)
  have bb1 : Hid (Below w.heap.size w ((((w0.setCell ⟨w.heap.size, 4, none⟩ (.int .i64 a4)).setCell ⟨w.heap.size, 5, none⟩ (.int .i64 a5)).setCell ⟨w.heap.size, 6, none⟩ (.int .i64 a6)).setCell ⟨w.heap.size, 7, none⟩ (.int .i64 a7)).drew) := Lib.hid ((((bb.out.setCell (p := ⟨w.heap.size, 4, none⟩) (Nat.le_refl _) (.int .i64 a4)).setCell (p := ⟨w.heap.size, 5, none⟩) (Nat.le_refl _) (.int .i64 a5)).setCell (p := ⟨w.heap.size, 6, none⟩) (Nat.le_refl _) (.int .i64 a6)).setCell (p := ⟨w.heap.size, 7, none⟩) (Nat.le_refl _) (.int .i64 a7)).drew
  have KB1 : Hid (Bk ((((w0.setCell ⟨w.heap.size, 4, none⟩ (.int .i64 a4)).setCell ⟨w.heap.size, 5, none⟩ (.int .i64 a5)).setCell ⟨w.heap.size, 6, none⟩ (.int .i64 a6)).setCell ⟨w.heap.size, 7, none⟩ (.int .i64 a7)).drew w.heap.size 72 #[.int .i64 a0, .int .i64 a1, .int .i64 a2, .int .i64 a3, .int .i64 a4, .int .i64 a5, .int .i64 a6, .int .i64 a7]) := Lib.hid ((((KB0.out.store 4 (.int .i64 a4)).store 5 (.int .i64 a5)).store 6 (.int .i64 a6)).store 7 (.int .i64 a7)).drew
  clear X3 X4 X5 X6 X7 HSS bb KB0 fz0 c0 c4 d0 hz0 fzs u0 z0 u1 z1 u2 z2 u3 z3 u4 z4 u5 z5 u6 z6 u7 z7
  revert bb1 KB1
  generalize ((((w0.setCell ⟨w.heap.size, 4, none⟩ (.int .i64 a4)).setCell ⟨w.heap.size, 5, none⟩ (.int .i64 a5)).setCell ⟨w.heap.size, 6, none⟩ (.int .i64 a6)).setCell ⟨w.heap.size, 7, none⟩ (.int .i64 a7)).drew = w0
  intro bb KB0
  have fz0 : ∀ i : Nat, w0.frozen? ⟨g, i, none⟩ = false := fun i => (bb.out.frozen (p := ⟨g, i, none⟩) Hgl).trans (fz i)
  have c0 : w0.cell? ⟨g, 0, none⟩ = some (.slice A9 st.done.length c9) := (bb.out.cell (p := ⟨g, 0, none⟩) Hgl).trans b0
  have c4 : w0.cell? ⟨g, 4, none⟩ = some (.slice A1 st.cell.insts.length c1) := (bb.out.cell (p := ⟨g, 4, none⟩) Hgl).trans b4
  have d0 : w0.cell? ⟨gw, 0, none⟩ = some (.string kwArray) := (bb.out.cell (p := ⟨gw, 0, none⟩) hgw).trans cw0
  have hz0 : w.heap.size < w0.heap.size := KB0.out.lt
  have s0 : w0.cell? ⟨w.heap.size, 0, none⟩ = some (.int .i64 a0) := KB0.out.cell 0
  have s1 : w0.cell? ⟨w.heap.size, 1, none⟩ = some (.int .i64 a1) := KB0.out.cell 1
  have s2 : w0.cell? ⟨w.heap.size, 2, none⟩ = some (.int .i64 a2) := KB0.out.cell 2
  have s3 : w0.cell? ⟨w.heap.size, 3, none⟩ = some (.int .i64 a3) := KB0.out.cell 3
  have s4 : w0.cell? ⟨w.heap.size, 4, none⟩ = some (.int .i64 a4) := KB0.out.cell 4
  have s5 : w0.cell? ⟨w.heap.size, 5, none⟩ = some (.int .i64 a5) := KB0.out.cell 5
  have s6 : w0.cell? ⟨w.heap.size, 6, none⟩ = some (.int .i64 a6) := KB0.out.cell 6
  have s7 : w0.cell? ⟨w.heap.size, 7, none⟩ = some (.int .i64 a7) := KB0.out.cell 7
  rcases Decidable.em (st.cell.insts.length = 8) with h24 | h24
  · have Hv : Hid (takeV st .array ws [a0, a1, a2, a3, a4, a5, a6, a7] = (3, st)) := Lib.hid (takeV_array_lim ws [a0, a1, a2, a3, a4, a5, a6, a7] h24)
    have h24p : (st.cell.insts.length : Int) = 8 := by omega
    clear h24
    go_wp2
    go_ret
    exact ⟨_, _, _, _, _, rfl, Hv, HP.out.on bb.out, bb.out.mono hBw, (KeepI.refl _).on bb.out⟩
  · have h24p : ¬ (st.cell.insts.length : Int) = 8 := by omega
    have h24q : ((st.cell.insts.length : Int) == 8) = false := by simpa using h24p
    cases hok : instB ⟨a0, a1, a2, a3, a4, a5, a6, a7⟩ st.done.length with
    | false =>
      have Hv : Hid (takeV st .array ws [a0, a1, a2, a3, a4, a5, a6, a7] = (1, st)) := Lib.hid (by
        have h : instB (instOf .array [a0, a1, a2, a3, a4, a5, a6, a7]) st.done.length = false := hok
        exact takeV_array_bad h24 h)
      clear h24
      go_wp2
      go_still_tail 7, (by kernel_rfl)
      change wpList _ _ _ _ _ w0.drew
      go_wp2_with (go_at_call 82; refine (inst_impl ⟨a0, a1, a2, a3, a4, a5, a6, a7⟩ (st.done.length : Int) _ ⟨by omega, by omega⟩).mono ?_; rintro e w1 ⟨rfl, hb1⟩; rw [hok])
      go_ret
      have b1 := bb.out.drew.trans (hb1.mono bb.out.drew.size)
      exact ⟨_, _, _, _, _, rfl, Hv, HP.out.on b1, b1.mono hBw, (KeepI.refl _).on b1⟩
    | true =>
      obtain ⟨st', hst'⟩ : ∃ st' : PS, st' = { st with cell := { st.cell with insts := st.cell.insts ++ [⟨a0, a1, a2, a3, a4, a5, a6, a7⟩] } } := ⟨_, rfl⟩
      have Hv : Hid (takeV st .array ws [a0, a1, a2, a3, a4, a5, a6, a7] = (0, st')) := Lib.hid (by
        have e : instOf .array [a0, a1, a2, a3, a4, a5, a6, a7] = ⟨a0, a1, a2, a3, a4, a5, a6, a7⟩ := rfl
        have h : instB (instOf .array [a0, a1, a2, a3, a4, a5, a6, a7]) st.done.length = true := by rw [e]; exact hok
        rw [hst']
        rw [takeV_array_ok h24 h, e])
      have HST := Lib.hid hst'
      clear h24 hst'
      go_wp2
      go_still_tail 7, (by kernel_rfl)
      change wpList _ _ _ _ _ w0.drew
      go_wp2_with (go_at_call 82; refine (inst_impl ⟨a0, a1, a2, a3, a4, a5, a6, a7⟩ (st.done.length : Int) _ ⟨by omega, by omega⟩).mono ?_; rintro e w1 ⟨rfl, hb1⟩; rw [hok])
      have BB := Lib.hid (bb.out.drew.trans (hb1.mono bb.out.drew.size))
      have KB := KB0.out.drew.on hb1
      have t0 : w1.cell? ⟨w.heap.size, 0, none⟩ = some (.int .i64 a0) := KB.cell 0
      have t1 : w1.cell? ⟨w.heap.size, 1, none⟩ = some (.int .i64 a1) := KB.cell 1
      have t2 : w1.cell? ⟨w.heap.size, 2, none⟩ = some (.int .i64 a2) := KB.cell 2
      have t3 : w1.cell? ⟨w.heap.size, 3, none⟩ = some (.int .i64 a3) := KB.cell 3
      have t4 : w1.cell? ⟨w.heap.size, 4, none⟩ = some (.int .i64 a4) := KB.cell 4
      have t5 : w1.cell? ⟨w.heap.size, 5, none⟩ = some (.int .i64 a5) := KB.cell 5
      have t6 : w1.cell? ⟨w.heap.size, 6, none⟩ = some (.int .i64 a6) := KB.cell 6
      have t7 : w1.cell? ⟨w.heap.size, 7, none⟩ = some (.int .i64 a7) := KB.cell 7
      have g4 : w1.cell? ⟨g, 4, none⟩ = some (.slice A1 st.cell.insts.length c1) := (BB.out.cell (p := ⟨g, 4, none⟩) Hgl).trans b4
      have hz1 : w.heap.size < w1.heap.size := KB.lt
      have hBw1 : B ≤ w1.heap.size := by omega
      have Hgl1 : g < w1.heap.size := by omega
      clear s0 s1 s2 s3 s4 s5 s6 s7 v0 v1 v2 v3 v4 v5 v6 v7 c0 c4 d0 b0 b4 cw0 fz fz0 h24p h24q hok
      have HK := Lib.hid (HP.out.pk.on (BB.out.trans (((Below.refl w1.heap.size w1).alloc (Nat.le_refl _) (.cells #[.int .i64 a0, .int .i64 a1, .int .i64 a2, .int .i64 a3, .int .i64 a4, .int .i64 a5, .int .i64 a6, .int .i64 a7] 72)).drew.mono (by omega))))
      clear KB hb1
      go_wp2
      go_region_law (refine step_append_F (t := 72) (n := 8) (enc := InstD.vals) rfl (.tmp 72) (.tmp 74) 44 64 _ infoInstance Tryz.underlying44 rfl (by decide) (by decide) rfl B (.slice A1 st.cell.insts.length c1) st.cell.insts ⟨a0, a1, a2, a3, a4, a5, a6, a7⟩ rfl HK.out.cur.i rfl (instV_one _) w1.heap.size rfl (Bk.new w1 _ _).drew hlen (by simp; omega) ?_; intro v' w2 k1 k2 k3; obtain ⟨Av, cw, hv', -, -⟩ := k1.form; rw [List.length_append, List.length_singleton] at hv'; subst hv'; (have KG := HK.out.grow (e := 72) (u' := ⟨uS, uL, (.slice Av (st.cell.insts.length + 1) cw)⟩) (c' := { st.cell with insts := st.cell.insts ++ [⟨a0, a1, a2, a3, a4, a5, a6, a7⟩] }) Hap.out (by decide) (by decide) (fun b hb => .inr (.inr hb)) HK.out.cur.i k2 k3 (fun b hb => by rcases hb with h | h | h; exact .inl (.inl h); exact .inl (.inr (.inl h)); exact .inr h) ⟨World.ownsRow.kept HK.out.cur.s k2 (own_types HK.out.cur.s HK.out.cur.i (by decide)), World.ownsRow.kept HK.out.cur.l k2 (own_types HK.out.cur.l HK.out.cur.i (by decide)), k1⟩); have f0 := KG.1.bk.frozen; (have d4 : w2.cell? ⟨g, 4, none⟩ = some (.slice A1 st.cell.insts.length c1) := KG.1.bk.cell 4); have K1 := Lib.hid KG; clear KG k1 k2 k3)
      go_wp2
      all_goals
        go_ret
        have k := K1.out.1.put tyI.1 tyI.2 4 (.slice Av (st.cell.insts.length + 1) cw)
        exact ⟨0, st', _, ps, ⟨uS, uL, (.slice Av (st.cell.insts.length + 1) cw)⟩, rfl, Hv, by
          rw [HST.out]
          exact ⟨k.bk, HP.out.eq, k.lib, k.cur, by
            show Apart3 (_ ++ if st.op = true then _ else _)
            rw [if_pos hop]
            exact K1.out.2, k.hg⟩, k.bel, k.ints⟩


end Go.Proofs.YtcckamhokdodnaaGreatDoor

namespace Go.Proofs.YtcckamhokdodnaaGreatDoor
open Go.RowKit

theorem at_len {α : Type} {l : List α} {k : Nat} (h : k < l.length) : ∃ x, l[k]? = some x := ⟨_, List.getElem?_eq_getElem h⟩
theorem list4 {l : List Int} (h : l.length = 4) : ∃ a b c d, l = [a, b, c, d] := by
  match l, h with
  | [a, b, c, d], _ => exact ⟨a, b, c, d, rfl⟩
theorem list5 {l : List Int} (h : l.length = 5) : ∃ a b c d e, l = [a, b, c, d, e] := by
  match l, h with
  | [a, b, c, d, e], _ => exact ⟨a, b, c, d, e, rfl⟩
theorem list8 {l : List Int} (h : l.length = 8) : ∃ a b c d e f g i, l = [a, b, c, d, e, f, g, i] := by
  match l, h with
  | [a, b, c, d, e, f, g, i], _ => exact ⟨a, b, c, d, e, f, g, i, rfl⟩
theorem takesI : TakesI := by
  intro k A n c B2 m2 c2 ws v B g st cv ps u w hP hO hW hn h0 hl hop hsz hI hv
  cases k with
  | cell =>
    obtain ⟨nm, h1⟩ := at_len (l := ws) (k := 1) (by rw [hl]; decide)
    exact takeCell_impl A n c (.slice B2 m2 c2) ws v B g st cv ps u w hP hO hW hn nm h0 h1
  | fin => exact takeFin_impl A n c (.slice B2 m2 c2) ws v B g st cv ps u w hP hO hW hn h0 (by rw [hop]; rfl)
  | rect =>
    obtain ⟨a0, a1, a2, a3, a4, rfl⟩ := list5 hv
    exact take_rect_impl A n c B2 m2 c2 ws a0 a1 a2 a3 a4 B g st cv ps u w hP hO hW hn h0 (by rw [hop]; rfl) hI
  | label =>
    obtain ⟨a0, a1, a2, a3, rfl⟩ := list4 hv
    obtain ⟨nm, h4⟩ := at_len (l := ws) (k := 4) (by rw [hl]; decide)
    exact take_label_impl A n c B2 m2 c2 ws a0 a1 a2 a3 B g st cv ps u w hP hO hW hn h0 nm h4 (hsz nm (List.mem_of_getElem? h4)) (by rw [hop]; rfl) hI
  | place =>
    obtain ⟨a0, a1, a2, a3, rfl⟩ := list4 hv
    exact take_place_impl A n c B2 m2 c2 ws a0 a1 a2 a3 B g st cv ps u w hP hO hW hn h0 (by rw [hop]; rfl) hI
  | array =>
    obtain ⟨a0, a1, a2, a3, a4, a5, a6, a7, rfl⟩ := list8 hv
    exact take_array_impl A n c B2 m2 c2 ws a0 a1 a2 a3 a4 a5 a6 a7 B g st cv ps u w hP hO hW hn h0 (by rw [hop]; rfl) hI
end Go.Proofs.YtcckamhokdodnaaGreatDoor
