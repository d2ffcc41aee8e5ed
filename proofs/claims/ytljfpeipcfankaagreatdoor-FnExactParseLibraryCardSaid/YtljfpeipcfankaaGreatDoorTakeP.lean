/- The program's take: lines of records. Conditions: the parser's state lies in memory; the words and the numbers of a line that begins with the keyword. -/
import Derived.Test.YtljfpeipcfankaaGreatDoorTakeRL
import Derived.StillTailTactics
import Derived.BigRegion
import Derived.Deep.RegionHeld3
namespace Go.Proofs.YtljfpeipcfankaaGreatDoor
open Go.RowKit

set_option maxHeartbeats 3200000 in
set_option maxRecDepth 100000 in
theorem take_place_impl (A : Option Addr) (n c : Nat) (B2 : Option Addr) (m2 c2 : Nat) (ws : List ByteArray) (a0 a1 a2 a3 : Int) (B g : Nat) (st : PS) (cv : Value) (ps : List (CellD × Sl3)) (u : Sl3) (w : World) (hP : PMi w B g st cv ps u) (hO : StOk st)
    (hW : SL w 0 (.slice A n c) ws) (hn : n = ws.length) (h0 : ws[0]? = some kwPlace) (hop : st.op = true) (hI : IL w 0 (.slice B2 m2 c2) [a0, a1, a2, a3]) :
    Calls Tryz.prog 31 #[.pointer (some ⟨g, 0, none⟩), .slice A n c, .slice B2 m2 c2] w (TakeAns 48 pvI st .place ws [a0, a1, a2, a3] B g w) := by
  obtain ⟨uS, uL, uI⟩ := u
  obtain ⟨A9, c9, ecv, -, hm9⟩ := hP.lib.form
  rw [hP.len] at ecv
  subst ecv
  obtain ⟨A1, c1, e1, -, hm1⟩ := hP.cur.i.form
  dsimp only at e1
  subst e1
  obtain ⟨gv, rfl, hgv, e2, hcv⟩ := ints_at hI (by simp)
  obtain rfl : m2 = 4 := e2
  have v0 : w.cell? ⟨gv, 0, none⟩ = some (.int .i64 a0) := hcv 0 _ rfl
  have v1 : w.cell? ⟨gv, 1, none⟩ = some (.int .i64 a1) := hcv 1 _ rfl
  have v2 : w.cell? ⟨gv, 2, none⟩ = some (.int .i64 a2) := hcv 2 _ rfl
  have v3 : w.cell? ⟨gv, 3, none⟩ = some (.int .i64 a3) := hcv 3 _ rfl
  have hl1 : 0 < ws.length := (List.getElem?_eq_some_iff.1 h0).1
  obtain ⟨gw, x0, rfl, hx0, -, hgw, cw0⟩ := hW.elem (k := 0) hl1
  obtain rfl : x0 = kwPlace := by rw [h0] at hx0; exact (Option.some.inj hx0).symm
  have Hlen := Lib.hid hP.len
  have HP := Lib.hid hP
  have b0 : w.cell? ⟨g, 0, none⟩ = some (.slice A9 st.done.length c9) := HP.out.bk.cell 0
  have b4 : w.cell? ⟨g, 4, none⟩ = some (.slice A1 st.cell.insts.length c1) := HP.out.bk.cell 4
  have fz := HP.out.bk.frozen
  have hL0 : 0 < n := by omega
  have Hg := HP.out.hg
  have Hgl := HP.out.bk.lt
  have hBw : B ≤ w.heap.size := by omega
  have hOs := hO.i
  have hOn := hO.n
  have hlen : st.cell.insts.length ≤ 1000000 := by omega
  have Hap : Hid (Apart3 (ps.map Prod.snd ++ [⟨uS, uL, (.slice A1 st.cell.insts.length c1)⟩])) := Lib.hid (by have h := HP.out.apart; rwa [if_pos hop] at h)
  have bb : Hid (Below w.heap.size w (w.alloc (.cells #[.int .i64 a0, .int .i64 a1, .int .i64 a2, .int .i64 a3, .int .i64 1, .int .i64 1, .int .i64 0, .int .i64 0] 87)).drew) := Lib.hid ((Below.refl w.heap.size w).alloc (Nat.le_refl _) _).drew
  have KB0 : Hid (Bk (w.alloc (.cells #[.int .i64 a0, .int .i64 a1, .int .i64 a2, .int .i64 a3, .int .i64 1, .int .i64 1, .int .i64 0, .int .i64 0] 87)).drew w.heap.size 87 #[.int .i64 a0, .int .i64 a1, .int .i64 a2, .int .i64 a3, .int .i64 1, .int .i64 1, .int .i64 0, .int .i64 0]) := Lib.hid (Bk.new w 87 #[.int .i64 a0, .int .i64 a1, .int .i64 a2, .int .i64 a3, .int .i64 1, .int .i64 1, .int .i64 0, .int .i64 0]).drew
  clear hP hW h0 hx0 hI hcv hO
  have HSS : Hid (∀ W : World, Below w.heap.size w W → W.cell? ⟨gv, 0, none⟩ = some (.int .i64 a0) ∧ W.cell? ⟨gv, 1, none⟩ = some (.int .i64 a1) ∧ W.cell? ⟨gv, 2, none⟩ = some (.int .i64 a2) ∧ W.cell? ⟨gv, 3, none⟩ = some (.int .i64 a3)) := Lib.hid fun W hW => ⟨(hW.cell (p := ⟨gv, 0, none⟩) hgv).trans v0, (hW.cell (p := ⟨gv, 1, none⟩) hgv).trans v1, (hW.cell (p := ⟨gv, 2, none⟩) hgv).trans v2, (hW.cell (p := ⟨gv, 3, none⟩) hgv).trans v3⟩
  go_enter Tryz.func31, Tryz.ntmps31
  go_wp2
  go_region_held3 (fun w' => w'.cell? ⟨gv, 0, none⟩ = some (.int .i64 a0) ∧ w'.cell? ⟨gv, 1, none⟩ = some (.int .i64 a1) ∧ w'.cell? ⟨gv, 2, none⟩ = some (.int .i64 a2) ∧ w'.cell? ⟨gv, 3, none⟩ = some (.int .i64 a3)) (first | (with_reducible exact HSS.out _ (Below.refl _ _)) | (with_reducible exact HSS.out _ (Below.refl _ _).drew) | (with_reducible exact HSS.out _ ((Below.refl _ _).alloc (Nat.le_refl _) _)) | (with_reducible exact HSS.out _ ((Below.refl _ _).alloc (Nat.le_refl _) _).drew)) (fail)
  clear HSS
  generalize (w.alloc (.cells #[.int .i64 a0, .int .i64 a1, .int .i64 a2, .int .i64 a3, .int .i64 1, .int .i64 1, .int .i64 0, .int .i64 0] 87)).drew = w0 at *
  have fz0 : ∀ i : Nat, w0.frozen? ⟨g, i, none⟩ = false := fun i => (bb.out.frozen (p := ⟨g, i, none⟩) Hgl).trans (fz i)
  have c0 : w0.cell? ⟨g, 0, none⟩ = some (.slice A9 st.done.length c9) := (bb.out.cell (p := ⟨g, 0, none⟩) Hgl).trans b0
  have c4 : w0.cell? ⟨g, 4, none⟩ = some (.slice A1 st.cell.insts.length c1) := (bb.out.cell (p := ⟨g, 4, none⟩) Hgl).trans b4
  have d0 : w0.cell? ⟨gw, 0, none⟩ = some (.string kwPlace) := (bb.out.cell (p := ⟨gw, 0, none⟩) hgw).trans cw0
  have hz0 : w.heap.size < w0.heap.size := KB0.out.lt
  have s0 : w0.cell? ⟨w.heap.size, 0, none⟩ = some (.int .i64 a0) := KB0.out.cell 0
  have s1 : w0.cell? ⟨w.heap.size, 1, none⟩ = some (.int .i64 a1) := KB0.out.cell 1
  have s2 : w0.cell? ⟨w.heap.size, 2, none⟩ = some (.int .i64 a2) := KB0.out.cell 2
  have s3 : w0.cell? ⟨w.heap.size, 3, none⟩ = some (.int .i64 a3) := KB0.out.cell 3
  have s4 : w0.cell? ⟨w.heap.size, 4, none⟩ = some (.int .i64 1) := KB0.out.cell 4
  have s5 : w0.cell? ⟨w.heap.size, 5, none⟩ = some (.int .i64 1) := KB0.out.cell 5
  have s6 : w0.cell? ⟨w.heap.size, 6, none⟩ = some (.int .i64 0) := KB0.out.cell 6
  have s7 : w0.cell? ⟨w.heap.size, 7, none⟩ = some (.int .i64 0) := KB0.out.cell 7
  rcases Decidable.em (st.cell.insts.length = 8) with h24 | h24
  · have Hv : Hid (takeV st .place ws [a0, a1, a2, a3] = (3, st)) := Lib.hid (takeV_place_lim ws [a0, a1, a2, a3] h24)
    have h24p : (st.cell.insts.length : Int) = 8 := by omega
    clear h24
    go_wp2
    go_ret
    exact ⟨_, _, _, _, _, rfl, Hv, HP.out.on bb.out, bb.out.mono hBw, (KeepI.refl _).on bb.out⟩
  · have h24p : ¬ (st.cell.insts.length : Int) = 8 := by omega
    have h24q : ((st.cell.insts.length : Int) == 8) = false := by simpa using h24p
    cases hok : instB ⟨a0, a1, a2, a3, 1, 1, 0, 0⟩ st.done.length with
    | false =>
      have Hv : Hid (takeV st .place ws [a0, a1, a2, a3] = (1, st)) := Lib.hid (by
        have h : instB (instOf .place [a0, a1, a2, a3]) st.done.length = false := hok
        exact takeV_place_bad h24 h)
      clear h24
      go_wp2
      go_still_tail 7, (by kernel_rfl)
      change wpList _ _ _ _ _ w0.drew
      go_wp2_with (go_at_call 58; refine (inst_impl ⟨a0, a1, a2, a3, 1, 1, 0, 0⟩ (st.done.length : Int) _ ⟨by omega, by omega⟩).mono ?_; rintro e w1 ⟨rfl, hb1⟩; rw [hok])
      go_ret
      have b1 := bb.out.drew.trans (hb1.mono bb.out.drew.size)
      exact ⟨_, _, _, _, _, rfl, Hv, HP.out.on b1, b1.mono hBw, (KeepI.refl _).on b1⟩
    | true =>
      obtain ⟨st', hst'⟩ : ∃ st' : PS, st' = { st with cell := { st.cell with insts := st.cell.insts ++ [⟨a0, a1, a2, a3, 1, 1, 0, 0⟩] } } := ⟨_, rfl⟩
      have Hv : Hid (takeV st .place ws [a0, a1, a2, a3] = (0, st')) := Lib.hid (by
        have e : instOf .place [a0, a1, a2, a3] = ⟨a0, a1, a2, a3, 1, 1, 0, 0⟩ := rfl
        have h : instB (instOf .place [a0, a1, a2, a3]) st.done.length = true := by rw [e]; exact hok
        rw [hst']
        rw [takeV_place_ok h24 h, e])
      have HST := Lib.hid hst'
      clear h24 hst'
      go_wp2
      go_still_tail 7, (by kernel_rfl)
      change wpList _ _ _ _ _ w0.drew
      go_wp2_with (go_at_call 58; refine (inst_impl ⟨a0, a1, a2, a3, 1, 1, 0, 0⟩ (st.done.length : Int) _ ⟨by omega, by omega⟩).mono ?_; rintro e w1 ⟨rfl, hb1⟩; rw [hok])
      have BB := Lib.hid (bb.out.drew.trans (hb1.mono bb.out.drew.size))
      have KB := KB0.out.drew.on hb1
      have t0 : w1.cell? ⟨w.heap.size, 0, none⟩ = some (.int .i64 a0) := KB.cell 0
      have t1 : w1.cell? ⟨w.heap.size, 1, none⟩ = some (.int .i64 a1) := KB.cell 1
      have t2 : w1.cell? ⟨w.heap.size, 2, none⟩ = some (.int .i64 a2) := KB.cell 2
      have t3 : w1.cell? ⟨w.heap.size, 3, none⟩ = some (.int .i64 a3) := KB.cell 3
      have t4 : w1.cell? ⟨w.heap.size, 4, none⟩ = some (.int .i64 1) := KB.cell 4
      have t5 : w1.cell? ⟨w.heap.size, 5, none⟩ = some (.int .i64 1) := KB.cell 5
      have t6 : w1.cell? ⟨w.heap.size, 6, none⟩ = some (.int .i64 0) := KB.cell 6
      have t7 : w1.cell? ⟨w.heap.size, 7, none⟩ = some (.int .i64 0) := KB.cell 7
      have g4 : w1.cell? ⟨g, 4, none⟩ = some (.slice A1 st.cell.insts.length c1) := (BB.out.cell (p := ⟨g, 4, none⟩) Hgl).trans b4
      have hz1 : w.heap.size < w1.heap.size := KB.lt
      have hBw1 : B ≤ w1.heap.size := by omega
      have Hgl1 : g < w1.heap.size := by omega
      clear s0 s1 s2 s3 s4 s5 s6 s7 v0 v1 v2 v3 c0 c4 d0 b0 b4 cw0 fz fz0 h24p h24q hok
      have HK := Lib.hid (HP.out.pk.on (BB.out.trans (((Below.refl w1.heap.size w1).alloc (Nat.le_refl _) (.cells #[.int .i64 a0, .int .i64 a1, .int .i64 a2, .int .i64 a3, .int .i64 1, .int .i64 1, .int .i64 0, .int .i64 0] 87)).drew.mono (by omega))))
      clear KB hb1
      go_wp2
      go_region_law (refine step_append_F (t := 87) (n := 8) (enc := InstD.vals) rfl (.tmp 72) (.tmp 74) 38 64 _ infoInstance Tryz.underlying38 rfl (by decide) (by decide) rfl B (.slice A1 st.cell.insts.length c1) st.cell.insts ⟨a0, a1, a2, a3, 1, 1, 0, 0⟩ rfl HK.out.cur.i rfl (instV_one _) w1.heap.size rfl (Bk.new w1 _ _).drew hlen (by simp; omega) ?_; intro v' w2 k1 k2 k3; obtain ⟨Av, cw, hv', -, -⟩ := k1.form; rw [List.length_append, List.length_singleton] at hv'; subst hv'; (have KG := HK.out.grow (e := 87) (u' := ⟨uS, uL, (.slice Av (st.cell.insts.length + 1) cw)⟩) (c' := { st.cell with insts := st.cell.insts ++ [⟨a0, a1, a2, a3, 1, 1, 0, 0⟩] }) Hap.out (by decide) (by decide) (fun b hb => .inr (.inr hb)) HK.out.cur.i k2 k3 (fun b hb => by rcases hb with h | h | h; exact .inl (.inl h); exact .inl (.inr (.inl h)); exact .inr h) ⟨World.ownsRow.kept HK.out.cur.s k2 (own_types HK.out.cur.s HK.out.cur.i (by decide)), World.ownsRow.kept HK.out.cur.l k2 (own_types HK.out.cur.l HK.out.cur.i (by decide)), k1⟩); have f0 := KG.1.bk.frozen; (have d4 : w2.cell? ⟨g, 4, none⟩ = some (.slice A1 st.cell.insts.length c1) := KG.1.bk.cell 4); have K1 := Lib.hid KG; clear KG k1 k2 k3)
      go_wp2
      all_goals
        go_ret
        have k := K1.out.1.put tyI.1 tyI.2 4 (.slice Av (st.cell.insts.length + 1) cw)
        exact ⟨0, st', _, ps, ⟨uS, uL, (.slice Av (st.cell.insts.length + 1) cw)⟩, rfl, Hv, by
          rw [HST.out]
          exact ⟨k.bk, HP.out.eq, k.lib, k.cur, by
            show Apart3 (_ ++ if st.op = true then _ else _)
            rw [if_pos hop]
            exact K1.out.2, k.hg⟩, k.bel, k.ints⟩


end Go.Proofs.YtljfpeipcfankaaGreatDoor
