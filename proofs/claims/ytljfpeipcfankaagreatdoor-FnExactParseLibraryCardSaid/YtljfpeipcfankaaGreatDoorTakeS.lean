/- The reference's l15Add. Conditions: the parser's state lies in memory; the words and the numbers of a line that begins with the keyword. -/
import Derived.Test.YtljfpeipcfankaaGreatDoorTakeK
namespace Go.Proofs.YtljfpeipcfankaaGreatDoor
open Go.RowKit

theorem tyS : tyOk 42 ∧ 42 ≠ 40 := by decide
/-- The empty literal ahead of a copy, in the three orders. -/
theorem FL.litA {α : Type} {t : TypeId} {n : Nat} {enc : α → List Value} (w : World) {B : Nat} (hB : B ≤ w.heap.size) : FL t n enc (w.alloc (.cells #[] t)).drew B (.slice (some ⟨w.heap.size, 0, none⟩) 0 0) [] := (FL.lit0 w hB).drew
theorem FL.litB {α : Type} {t : TypeId} {n : Nat} {enc : α → List Value} (w : World) {B : Nat} (hB : B ≤ w.heap.size) (o : Obj) : FL t n enc ((w.alloc (.cells #[] t)).alloc o).drew B (.slice (some ⟨w.heap.size, 0, none⟩) 0 0) [] := ((FL.lit0 w hB).alloc o).drew
theorem FL.litC {α : Type} {t : TypeId} {n : Nat} {enc : α → List Value} (w : World) {B : Nat} (hB : B ≤ w.heap.size) (o : Obj) : FL t n enc ((w.alloc o).alloc (.cells #[] t)).drew B (.slice (some ⟨w.heap.size + 1, 0, none⟩) 0 0) [] := by
  have h := (FL.lit0 (t := t) (n := n) (enc := enc) (w.alloc o) (B := B) (by simp; omega)).drew
  simpa using h
/-- What a copy that grows leaves: the old things lie as they lay. -/
theorem PK.more {t : TypeId} {w W : World} {B N g : Nat} {cs : Array Value} {cv v' : Value} {ps : List (CellD × Sl3)} {u : Sl3} {c : CellD} (h : PK t w B g cs cv ps u c W) (hN : B ≤ N)
    (h1 : FL 40 4 cellV W N v' (ps ++ [(c, u)])) : PK t w B g cs v' (ps ++ [(c, u)]) u c W :=
  ⟨h.bk, ⟨h1.less hN, fun k p hp => by
    rcases Nat.lt_or_ge k ps.length with hk | hk
    · rw [List.getElem?_append_left hk] at hp
      exact h.lib.each k p hp
    · rw [List.getElem?_append_right hk] at hp
      obtain rfl : p = (c, u) := by
        have := List.mem_of_getElem? hp
        simpa using this
      exact h.cur⟩, h.cur, h.hg, h.bel, h.ints⟩
theorem PK.fresh {t : TypeId} {w W : World} {B g : Nat} {cs : Array Value} {cv : Value} {ps : List (CellD × Sl3)} {u : Sl3} {c : CellD} (h : PK t w B g cs cv ps u c W) {W' : World} (hb : Below W.heap.size W W') : PK t w B g cs cv ps u c W' := h.on hb
theorem apart_fresh {us : List Sl3} {u u' : Sl3} {N : Nat} {v : Value} (h : Apart3 (us ++ [u])) (hN : ∀ x ∈ us, ∀ b, blkOf x b → b < N) (hv : ∀ b, v.ownBlock = some b → N ≤ b) (hu : ∀ b, blkOf u' b → blkOf u b ∨ v.ownBlock = some b) : Apart3 (us ++ [u']) :=
  apart_last.2 ⟨(apart_last.1 h).1, fun x hx b hxb hub => by
    rcases hu b hub with h1 | h1
    · exact (apart_last.1 h).2 x hx b hxb h1
    · exact Nat.lt_irrefl _ (Nat.lt_of_lt_of_le (hN x hx b hxb) (hv b h1))⟩
theorem PK.lt {t : TypeId} {w W : World} {B g : Nat} {cs : Array Value} {cv : Value} {ps : List (CellD × Sl3)} {u : Sl3} {c : CellD} (h : PK t w B g cs cv ps u c W) : ∀ x ∈ ps.map Prod.snd, ∀ b, blkOf x b → b < W.heap.size := fun x hx b hb => by
  obtain ⟨p, hp, rfl⟩ := List.mem_map.1 hx
  obtain ⟨k, hk⟩ := List.getElem?_of_mem hp
  exact ((h.lib.each k p hk).blk hb).2

set_option maxHeartbeats 3200000 in
set_option maxRecDepth 100000 in
theorem takeCell_spec (A : Option Addr) (n c : Nat) (vv : Value) (ws : List ByteArray) (v : List Int) (B g : Nat) (st : PS) (cv : Value) (ps : List (CellD × Sl3)) (u : Sl3) (w : World) (hP : PMs w B g st cv ps u) (_hO : StOk st)
    (hW : SL w 0 (.slice A n c) ws) (hn : n = ws.length) (nm : ByteArray) (h0 : ws[0]? = some kwCell) (h1 : ws[1]? = some nm) :
    Calls Tryz.prog 21 #[.pointer (some ⟨g, 0, none⟩), .slice A n c, vv] w (TakeAns 42 pvS st .cell ws v B g w) := by
  obtain ⟨uS, uL, uI⟩ := u
  obtain ⟨A9, c9, ecv, -, hm9⟩ := hP.lib.form
  rw [hP.len] at ecv
  subst ecv
  have hl1 : 0 < ws.length := (List.getElem?_eq_some_iff.1 h0).1
  obtain ⟨gw, x0, rfl, hx0, -, hgw, cw0⟩ := hW.elem (k := 0) hl1
  obtain rfl : x0 = kwCell := by rw [h0] at hx0; exact (Option.some.inj hx0).symm
  have hne : gw ≠ g := by
    rcases own_otherT hW hP.bk (by decide) with h | h
    · simp [Value.ownBlock] at h
    · intro e
      subst e
      exact h (by simp [Value.ownBlock])
  have hne2 : g ≠ gw := fun e => hne e.symm
  have Hlen := Lib.hid hP.len
  have HP := Lib.hid hP
  have b0 : w.cell? ⟨g, 0, none⟩ = some (.slice A9 st.done.length c9) := HP.out.bk.cell 0
  have b1 : w.cell? ⟨g, 1, none⟩ = some (.bool st.op) := HP.out.bk.cell 1
  have b2 : w.cell? ⟨g, 2, none⟩ = some (.string st.cell.name) := HP.out.bk.cell 2
  have b3 : w.cell? ⟨g, 3, none⟩ = some uS := HP.out.bk.cell 3
  have b4 : w.cell? ⟨g, 4, none⟩ = some uL := HP.out.bk.cell 4
  have b5 : w.cell? ⟨g, 5, none⟩ = some uI := HP.out.bk.cell 5
  have fz := HP.out.bk.frozen
  have hL0 : 0 < n := by omega
  have Hg := HP.out.hg
  have Hgl := HP.out.bk.lt
  have hBw : B ≤ w.heap.size := by omega
  have hl2 : 1 < ws.length := (List.getElem?_eq_some_iff.1 h1).1
  obtain ⟨gw2, x1, hA, hx1, -, -, cw1⟩ := hW.elem (k := 1) hl2
  obtain rfl : gw = gw2 := by simpa using hA
  obtain rfl : x1 = nm := by rw [h1] at hx1; exact (Option.some.inj hx1).symm
  have H1 : Hid (wAt ws 1 = x1) := Lib.hid (wAt_at h1)
  have hL1 : 1 < n := by omega
  clear hP hW h0 hx0 hx1 h1 hA
  by_cases h8 : st.done.length = 8
  · have Hv : Hid (takeV st .cell ws v = (3, st)) := Lib.hid (by simp only [takeV, if_pos h8])
    have h8p : (st.done.length : Int) = 8 := by omega
    clear h8
    go_enter Tryz.func21, Tryz.ntmps21
    go_wp2
    go_ret
    exact ⟨_, _, _, _, _, rfl, Hv, HP.out, Below.refl _ _, KeepI.refl _⟩
  · have Hv : Hid (takeV st .cell ws v = (0, ⟨st.done, ⟨x1, [], [], []⟩, true⟩)) := Lib.hid (by simp only [takeV, if_neg h8, H1.out])
    have h8p : ¬ (st.done.length : Int) = 8 := by omega
    have h8q : ((st.done.length : Int) == 8) = false := by simpa using h8p
    clear h8
    go_enter Tryz.func21, Tryz.ntmps21
    go_wp2
    go_ret
    have k := ((((HP.out.pk.put tyS.1 tyS.2 1 (.bool true)).put tyS.1 tyS.2 2 (.string x1)).put tyS.1 tyS.2 3 (.slice none 0 0)).put tyS.1 tyS.2 4 (.slice none 0 0)).put tyS.1 tyS.2 5 (.slice none 0 0)
    exact ⟨0, _, .slice A9 st.done.length c9, ps, nil3, rfl, Hv, ⟨k.bk, HP.out.eq, k.lib, C3.nil _ _ _, apart_nil (apart_done HP.out.apart), k.hg⟩, k.bel, k.ints⟩

set_option maxHeartbeats 3200000 in
set_option maxRecDepth 100000 in
theorem takeFin_spec (A : Option Addr) (n c : Nat) (vv : Value) (ws : List ByteArray) (v : List Int) (B g : Nat) (st : PS) (cv : Value) (ps : List (CellD × Sl3)) (u : Sl3) (w : World) (hP : PMs w B g st cv ps u) (hO : StOk st)
    (hW : SL w 0 (.slice A n c) ws) (hn : n = ws.length) (h0 : ws[0]? = some kwEnd) (hop : st.op = true) :
    Calls Tryz.prog 21 #[.pointer (some ⟨g, 0, none⟩), .slice A n c, vv] w (TakeAns 42 pvS st .fin ws v B g w) := by
  obtain ⟨uS, uL, uI⟩ := u
  obtain ⟨A9, c9, ecv, -, hm9⟩ := hP.lib.form
  rw [hP.len] at ecv
  subst ecv
  have hl1 : 0 < ws.length := (List.getElem?_eq_some_iff.1 h0).1
  obtain ⟨gw, x0, rfl, hx0, -, hgw, cw0⟩ := hW.elem (k := 0) hl1
  obtain rfl : x0 = kwEnd := by rw [h0] at hx0; exact (Option.some.inj hx0).symm
  have hne : gw ≠ g := by
    rcases own_otherT hW hP.bk (by decide) with h | h
    · simp [Value.ownBlock] at h
    · intro e
      subst e
      exact h (by simp [Value.ownBlock])
  have hne2 : g ≠ gw := fun e => hne e.symm
  have Hlen := Lib.hid hP.len
  have HP := Lib.hid hP
  have b0 : w.cell? ⟨g, 0, none⟩ = some (.slice A9 st.done.length c9) := HP.out.bk.cell 0
  have b1 : w.cell? ⟨g, 1, none⟩ = some (.bool st.op) := HP.out.bk.cell 1
  have b2 : w.cell? ⟨g, 2, none⟩ = some (.string st.cell.name) := HP.out.bk.cell 2
  have b3 : w.cell? ⟨g, 3, none⟩ = some uS := HP.out.bk.cell 3
  have b4 : w.cell? ⟨g, 4, none⟩ = some uL := HP.out.bk.cell 4
  have b5 : w.cell? ⟨g, 5, none⟩ = some uI := HP.out.bk.cell 5
  have fz := HP.out.bk.frozen
  have hL0 : 0 < n := by omega
  have Hg := HP.out.hg
  have Hgl := HP.out.bk.lt
  have hBw : B ≤ w.heap.size := by omega
  have hOn := hO.n
  have hlen : ps.length ≤ 1000000 := by rw [Hlen.out]; omega
  have Hv : Hid (takeV st .fin ws v = (0, ⟨st.done ++ [st.cell], st.cell, false⟩)) := Lib.hid rfl
  clear hP hW h0 hx0 hO
  go_enter Tryz.func21, Tryz.ntmps21
  have hB0 : w.heap.size ≤ (w.setCell ⟨g, 1, none⟩ (.bool false)).heap.size := by simp
  have bb0 : Hid (Below B w (w.setCell ⟨g, 1, none⟩ (.bool false))) := Lib.hid ((Below.refl B w).setCell (p := ⟨g, 1, none⟩) Hg _)
  go_wp2
  have HK := Lib.hid (HP.out.pk.put tyS.1 tyS.2 1 (.bool false))
  generalize w.setCell ⟨g, 1, none⟩ (.bool false) = w0 at *
  have c0 : w0.cell? ⟨g, 0, none⟩ = some (.slice A9 st.done.length c9) := HK.out.bk.cell 0
  have c2 : w0.cell? ⟨g, 2, none⟩ = some (.string st.cell.name) := HK.out.bk.cell 2
  have c3 : w0.cell? ⟨g, 3, none⟩ = some uS := HK.out.bk.cell 3
  have c4 : w0.cell? ⟨g, 4, none⟩ = some uL := HK.out.bk.cell 4
  have c5 : w0.cell? ⟨g, 5, none⟩ = some uI := HK.out.bk.cell 5
  have fz0 := HK.out.bk.frozen
  have Hgl0 := HK.out.bk.lt
  have Hone : ∀ p ∈ ps, ∀ x ∈ cellV p, x.oneCell' = true := fun p hp => by
    obtain ⟨k, hk⟩ := List.getElem?_of_mem hp
    exact cellV_one (HP.out.lib.each k p hk)
  have BA : Hid (Below w0.heap.size w0 (w0.alloc (.cells #[] 40)).drew) := Lib.hid ((Below.refl w0.heap.size w0).alloc (Nat.le_refl _) (.cells #[] 40)).drew
  have UA : Hid (FL 40 4 cellV (w0.alloc (.cells #[] 40)).drew B (.slice A9 st.done.length c9) ps) := Lib.hid ((HK.out.lib.own).on BA.out)
  have BB : Hid (Below w0.heap.size w0 ((w0.alloc (.cells #[] 40)).alloc (.cells #[.string st.cell.name, uS, uL, uI] 40)).drew) := Lib.hid (((Below.refl w0.heap.size w0).alloc (Nat.le_refl _) (.cells #[] 40)).alloc (by simp) (.cells #[.string st.cell.name, uS, uL, uI] 40)).drew
  have UB : Hid (FL 40 4 cellV ((w0.alloc (.cells #[] 40)).alloc (.cells #[.string st.cell.name, uS, uL, uI] 40)).drew B (.slice A9 st.done.length c9) ps) := Lib.hid ((HK.out.lib.own).on BB.out)
  have BC : Hid (Below w0.heap.size w0 ((w0.alloc (.cells #[.string st.cell.name, uS, uL, uI] 40)).alloc (.cells #[] 40)).drew) := Lib.hid (((Below.refl w0.heap.size w0).alloc (Nat.le_refl _) (.cells #[.string st.cell.name, uS, uL, uI] 40)).alloc (by simp) (.cells #[] 40)).drew
  have UC : Hid (FL 40 4 cellV ((w0.alloc (.cells #[.string st.cell.name, uS, uL, uI] 40)).alloc (.cells #[] 40)).drew B (.slice A9 st.done.length c9) ps) := Lib.hid ((HK.out.lib.own).on BC.out)
  have SB : Hid (Bk ((w0.alloc (.cells #[] 40)).alloc (.cells #[.string st.cell.name, uS, uL, uI] 40)).drew (w0.heap.size + 1) 40 #[.string st.cell.name, uS, uL, uI]) := Lib.hid (by have h := (Bk.new (w0.alloc (.cells #[] 40)) 40 #[.string st.cell.name, uS, uL, uI]).drew; simpa using h)
  have SC : Hid (Bk ((w0.alloc (.cells #[.string st.cell.name, uS, uL, uI] 40)).alloc (.cells #[] 40)).drew w0.heap.size 40 #[.string st.cell.name, uS, uL, uI]) := Lib.hid ((Bk.new w0 40 #[.string st.cell.name, uS, uL, uI]).alloc _).drew
  go_region_law (first
    | ((with_reducible refine step_append_FF (W := (w0.alloc (.cells #[] 40)).drew) (t := 40) (n := 4) (enc := cellV) ?_ (.tmp 103) (.tmp 108) 22 88 _ infoCell Tryz.underlying22 ?_ ?_ ?_ ?_ w0.heap.size B (.slice (some ⟨w0.heap.size, 0, none⟩) 0 0) (.slice A9 st.done.length c9) ps ?_ (FL.litA w0 (Nat.le_refl _)) cellV_len Hone ?_ UA.out hlen ?_ ?_); (exact rfl); (exact rfl); (decide); (decide); (exact rfl); (exact rfl); (exact rfl); (simp; try omega); intro v1 w1 k1 k2 k3; (have BW : Hid (Below w0.heap.size w0 w1) := Lib.hid (BA.out.trans k3)); (have HK1 := Lib.hid (HK.out.on BW.out)); (have e0 : w1.cell? ⟨g, 0, none⟩ = some (.slice A9 st.done.length c9) := HK1.out.bk.cell 0); (have e2 : w1.cell? ⟨g, 2, none⟩ = some (.string st.cell.name) := HK1.out.bk.cell 2); (have e3 : w1.cell? ⟨g, 3, none⟩ = some uS := HK1.out.bk.cell 3); (have e4 : w1.cell? ⟨g, 4, none⟩ = some uL := HK1.out.bk.cell 4); (have e5 : w1.cell? ⟨g, 5, none⟩ = some uI := HK1.out.bk.cell 5); have f1 := HK1.out.bk.frozen; have Hgl1 := HK1.out.bk.lt; clear k2 k3)
    | ((with_reducible refine step_append_FF (W := ((w0.alloc (.cells #[] 40)).alloc (.cells #[.string st.cell.name, uS, uL, uI] 40)).drew) (t := 40) (n := 4) (enc := cellV) ?_ (.tmp 103) (.tmp 108) 22 88 _ infoCell Tryz.underlying22 ?_ ?_ ?_ ?_ w0.heap.size B (.slice (some ⟨w0.heap.size, 0, none⟩) 0 0) (.slice A9 st.done.length c9) ps ?_ (FL.litB w0 (Nat.le_refl _) _) cellV_len Hone ?_ UB.out hlen ?_ ?_); (exact rfl); (exact rfl); (decide); (decide); (exact rfl); (exact rfl); (exact rfl); (simp; try omega); intro v1 w1 k1 k2 k3; (have BW : Hid (Below w0.heap.size w0 w1) := Lib.hid (BB.out.trans k3)); (have HK1 := Lib.hid (HK.out.on BW.out)); (have e0 : w1.cell? ⟨g, 0, none⟩ = some (.slice A9 st.done.length c9) := HK1.out.bk.cell 0); (have e2 : w1.cell? ⟨g, 2, none⟩ = some (.string st.cell.name) := HK1.out.bk.cell 2); (have e3 : w1.cell? ⟨g, 3, none⟩ = some uS := HK1.out.bk.cell 3); (have e4 : w1.cell? ⟨g, 4, none⟩ = some uL := HK1.out.bk.cell 4); (have e5 : w1.cell? ⟨g, 5, none⟩ = some uI := HK1.out.bk.cell 5); have f1 := HK1.out.bk.frozen; have Hgl1 := HK1.out.bk.lt; (have KX : Hid (Bk w1 (w0.heap.size + 1) 40 #[.string st.cell.name, uS, uL, uI]) := Lib.hid (SB.out.grown k2 (show (some (w0.heap.size + 1) : Option Nat) ≠ some w0.heap.size by simp))); clear k2 k3)
    | ((with_reducible refine step_append_FF (W := ((w0.alloc (.cells #[.string st.cell.name, uS, uL, uI] 40)).alloc (.cells #[] 40)).drew) (t := 40) (n := 4) (enc := cellV) ?_ (.tmp 103) (.tmp 108) 22 88 _ infoCell Tryz.underlying22 ?_ ?_ ?_ ?_ w0.heap.size B (.slice (some ⟨w0.heap.size + 1, 0, none⟩) 0 0) (.slice A9 st.done.length c9) ps ?_ (FL.litC w0 (Nat.le_refl _) _) cellV_len Hone ?_ UC.out hlen ?_ ?_); (exact rfl); (exact rfl); (decide); (decide); (exact rfl); (exact rfl); (exact rfl); (simp; try omega); intro v1 w1 k1 k2 k3; (have BW : Hid (Below w0.heap.size w0 w1) := Lib.hid (BC.out.trans k3)); (have HK1 := Lib.hid (HK.out.on BW.out)); (have e0 : w1.cell? ⟨g, 0, none⟩ = some (.slice A9 st.done.length c9) := HK1.out.bk.cell 0); (have e2 : w1.cell? ⟨g, 2, none⟩ = some (.string st.cell.name) := HK1.out.bk.cell 2); (have e3 : w1.cell? ⟨g, 3, none⟩ = some uS := HK1.out.bk.cell 3); (have e4 : w1.cell? ⟨g, 4, none⟩ = some uL := HK1.out.bk.cell 4); (have e5 : w1.cell? ⟨g, 5, none⟩ = some uI := HK1.out.bk.cell 5); have f1 := HK1.out.bk.frozen; have Hgl1 := HK1.out.bk.lt; (have KX : Hid (Bk w1 w0.heap.size 40 #[.string st.cell.name, uS, uL, uI]) := Lib.hid (SC.out.grown k2 (show (some w0.heap.size : Option Nat) ≠ some (w0.heap.size + 1) by simp))); clear k2 k3)
    | ((with_reducible refine step_append_F (W := (w1.alloc (.cells #[.string st.cell.name, uS, uL, uI] 40))) (t := 40) (n := 4) (enc := cellV) ?_ (.tmp 109) (.tmp 114) 22 88 _ infoCell Tryz.underlying22 ?_ ?_ ?_ ?_ w0.heap.size v1 ps (st.cell, ⟨uS, uL, uI⟩) ?_ (k1.alloc _) ?_ (cellV_one HP.out.cur) w1.heap.size ?_ ?_ hlen ?_ ?_); (exact rfl); (exact rfl); (decide); (decide); (exact rfl); (exact rfl); (exact rfl); (exact rfl); (exact Bk.new w1 _ _); (exact Nat.le_trans BW.out.size (by simp)); intro v2 w2 m1 m2 m3; (have BW2 : Hid (Below w0.heap.size w0 w2) := Lib.hid ((BW.out.alloc BW.out.size _).grown m2 (Nat.le_trans BW.out.size (by simp)) (fun k hk => (World.ownsRow.lt k1 k hk).1))); obtain ⟨Av, cw, hv', -, -⟩ := m1.form; rw [List.length_append, List.length_singleton, Hlen.out] at hv'; subst hv'; have HK2 := Lib.hid (HK.out.on BW2.out); (have d0 : w2.cell? ⟨g, 0, none⟩ = some (.slice A9 st.done.length c9) := HK2.out.bk.cell 0); have f2 := HK2.out.bk.frozen)
    | ((with_reducible refine step_append_F (W := w1) (t := 40) (n := 4) (enc := cellV) ?_ (.tmp 109) (.tmp 114) 22 88 _ infoCell Tryz.underlying22 ?_ ?_ ?_ ?_ w0.heap.size v1 ps (st.cell, ⟨uS, uL, uI⟩) ?_ k1 ?_ (cellV_one HP.out.cur) (w0.heap.size + 1) ?_ ?_ hlen ?_ ?_); (exact rfl); (exact rfl); (decide); (decide); (exact rfl); (exact rfl); (exact rfl); (exact rfl); (exact KX.out); (exact BW.out.size); intro v2 w2 m1 m2 m3; (have BW2 : Hid (Below w0.heap.size w0 w2) := Lib.hid (BW.out.grown m2 (BW.out.size) (fun k hk => (World.ownsRow.lt k1 k hk).1))); obtain ⟨Av, cw, hv', -, -⟩ := m1.form; rw [List.length_append, List.length_singleton, Hlen.out] at hv'; subst hv'; have HK2 := Lib.hid (HK.out.on BW2.out); (have d0 : w2.cell? ⟨g, 0, none⟩ = some (.slice A9 st.done.length c9) := HK2.out.bk.cell 0); have f2 := HK2.out.bk.frozen)
    | ((with_reducible refine step_append_F (W := w1) (t := 40) (n := 4) (enc := cellV) ?_ (.tmp 109) (.tmp 114) 22 88 _ infoCell Tryz.underlying22 ?_ ?_ ?_ ?_ w0.heap.size v1 ps (st.cell, ⟨uS, uL, uI⟩) ?_ k1 ?_ (cellV_one HP.out.cur) w0.heap.size ?_ ?_ hlen ?_ ?_); (exact rfl); (exact rfl); (decide); (decide); (exact rfl); (exact rfl); (exact rfl); (exact rfl); (exact KX.out); (exact BW.out.size); intro v2 w2 m1 m2 m3; (have BW2 : Hid (Below w0.heap.size w0 w2) := Lib.hid (BW.out.grown m2 (BW.out.size) (fun k hk => (World.ownsRow.lt k1 k hk).1))); obtain ⟨Av, cw, hv', -, -⟩ := m1.form; rw [List.length_append, List.length_singleton, Hlen.out] at hv'; subst hv'; have HK2 := Lib.hid (HK.out.on BW2.out); (have d0 : w2.cell? ⟨g, 0, none⟩ = some (.slice A9 st.done.length c9) := HK2.out.bk.cell 0); have f2 := HK2.out.bk.frozen))
  go_wp2
  all_goals
    go_ret
    have k := ((HK2.out.more (by omega) m1).put tyS.1 tyS.2 0 (.slice Av (st.done.length + 1) cw))
    exact ⟨0, _, _, ps ++ [(st.cell, ⟨uS, uL, uI⟩)], ⟨uS, uL, uI⟩, rfl, Hv, ⟨k.bk, by rw [List.map_append, HP.out.eq]; rfl, k.lib, k.cur, by have h := HP.out.apart; rw [hop] at h; simpa using h, k.hg⟩, k.bel, k.ints⟩

end Go.Proofs.YtljfpeipcfankaaGreatDoor
