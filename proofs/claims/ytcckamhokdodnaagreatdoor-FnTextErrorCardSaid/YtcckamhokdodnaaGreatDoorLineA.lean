/- What a line means, case by case; what the parser's bounds keep. No conditions. The program's textParser.line. Conditions: the parser's state lies in memory; a line of at most a million bytes; what 'take' answers (TakesI). The reference's l15Line. Conditions: the parser's state lies in memory; a line of at most a million bytes; what 'l15Add' answers (TakesS). -/
import Derived.Test.YtcckamhokdodnaaGreatDoorTakeK
import Derived.Test.YtcckamhokdodnaaGreatDoorLinesA
import Derived.StillTailTactics
namespace Go.Proofs.YtcckamhokdodnaaGreatDoor
open Go.RowKit

theorem cntI_some {s : ByteArray} {k : Kw} (h : kwOf s = some k) : cntI s = (k.ks.length : Int) + 1 := by
  rw [kwOf_some h]; cases k <;> rfl
theorem kinI_some {s : ByteArray} {k : Kw} (h : kwOf s = some k) : kinI s = ⟨(k.ks.map Kd.lo).toArray⟩ := by
  rw [kwOf_some h]; cases k <;> rfl
theorem fldS_some {s : ByteArray} {k : Kw} (h : kwOf s = some k) : fldS s = ⟨(k.ks.map Kd.up).toArray⟩ := by
  rw [kwOf_some h]; cases k <;> rfl
theorem kw_none {s : ByteArray} (h : kwOf s = none) : ¬ s = kwCell ∧ ¬ s = kwRect ∧ ¬ s = kwLabel ∧ ¬ s = kwPlace ∧ ¬ s = kwArray ∧ ¬ s = kwEnd := by
  refine ⟨?_, ?_, ?_, ?_, ?_, ?_⟩ <;> (intro e; subst e; cases h)
theorem cntI_none {s : ByteArray} (h : kwOf s = none) : cntI s = 0 := by
  obtain ⟨h0, h1, h2, h3, h4, h5⟩ := kw_none h
  unfold cntI
  rw [if_neg h0, if_neg h1, if_neg h2, if_neg h3, if_neg h4, if_neg h5]
theorem fldS_none {s : ByteArray} (h : kwOf s = none) : fldS s = ⟨#[63]⟩ := by
  obtain ⟨h0, h1, h2, h3, h4, h5⟩ := kw_none h
  unfold fldS
  rw [if_neg h0, if_neg h1, if_neg h2, if_neg h3, if_neg h4, if_neg h5]
theorem fldS_not {s : ByteArray} {k : Kw} (h : kwOf s = some k) : ¬ fldS s = ⟨#[63]⟩ := by
  rw [fldS_some h]; cases k <;> decide
theorem kw_len (k : Kw) : k.ks.length ≤ 8 := by cases k <;> decide
theorem kw_cell {s : ByteArray} {k : Kw} (h : kwOf s = some k) : s = kwCell ↔ k = .cell := by
  rw [kwOf_some h]; cases k <;> decide
theorem ks_new {k : Kw} (h : k ≠ .cell) : ∀ x ∈ k.ks, x ≠ .new := by cases k <;> first | exact absurd rfl h | decide

section
variable {st : PS} {s : ByteArray} {ws : List ByteArray} {cs : List Int} {f : Int} (E : colsT s = ⟨ws, cs, f⟩)
include E
theorem line_empty (h : ws = []) : lineV st s = ⟨0, 0, st⟩ := by
  unfold lineV
  rw [E]
  exact if_pos (.inl h)
theorem line_note (h : (wAt ws 0).data.toList.head? = some 35) : lineV st s = ⟨0, 0, st⟩ := by
  unfold lineV
  rw [E]
  exact if_pos (.inr h)
theorem line_unknown (h0 : ws ≠ []) (h1 : (wAt ws 0).data.toList.head? ≠ some 35) (hk : kwOf (wAt ws 0) = none) : lineV st s = ⟨4, at0 cs 0, st⟩ := by
  unfold lineV
  rw [E]
  dsimp only
  rw [if_neg (by rintro (h | h); exact h0 h; exact h1 h), hk]
theorem line_known {k : Kw} (h0 : ws ≠ []) (h1 : (wAt ws 0).data.toList.head? ≠ some 35) (hk : kwOf (wAt ws 0) = some k) : lineV st s =
      if k.ks.length + 1 < ws.length then ⟨4, at0 cs (k.ks.length + 1), st⟩
      else if ws.length < k.ks.length + 1 then ⟨4, (s.size : Int) + 1, st⟩
      else if st.op = decide (k = .cell) then ⟨6, at0 cs 0, st⟩
      else match badV st.done k.ks ws.tail with
        | some i => ⟨codeAt st.done k.ks ws.tail i, at0 cs (i + 1), st⟩
        | none => ⟨(takeV st k ws (valsV st.done k.ks ws.tail)).1, at0 cs 0, (takeV st k ws (valsV st.done k.ks ws.tail)).2⟩ := by
  unfold lineV
  rw [E]
  dsimp only
  rw [if_neg (by rintro (h | h); exact h0 h; exact h1 h), hk]
  rfl
variable {k : Kw} (h0 : ws ≠ []) (h1 : (wAt ws 0).data.toList.head? ≠ some 35) (hk : kwOf (wAt ws 0) = some k)
include h0 h1 hk
theorem line_long (h : k.ks.length + 1 < ws.length) : lineV st s = ⟨4, at0 cs (k.ks.length + 1), st⟩ := by
  rw [line_known E h0 h1 hk, if_pos h]
theorem line_short (h : ws.length < k.ks.length + 1) : lineV st s = ⟨4, (s.size : Int) + 1, st⟩ := by
  rw [line_known E h0 h1 hk, if_neg (by omega), if_pos h]
theorem line_state (h : ws.length = k.ks.length + 1) (hs : st.op = decide (k = .cell)) : lineV st s = ⟨6, at0 cs 0, st⟩ := by
  rw [line_known E h0 h1 hk, if_neg (by omega), if_neg (by omega), if_pos hs]
theorem line_bad (h : ws.length = k.ks.length + 1) (hs : ¬ st.op = decide (k = .cell)) {j : Nat} (hj : j < k.ks.length) (hz : ∀ i, i < j → codeAt st.done k.ks ws.tail i = 0) (hc : codeAt st.done k.ks ws.tail j ≠ 0) :
    lineV st s = ⟨codeAt st.done k.ks ws.tail j, at0 cs (j + 1), st⟩ := by
  rw [line_known E h0 h1 hk, if_neg (by omega), if_neg (by omega), if_neg hs, bad_some hj hz hc]
theorem line_take (h : ws.length = k.ks.length + 1) (hs : ¬ st.op = decide (k = .cell)) (hz : ∀ i, i < k.ks.length → codeAt st.done k.ks ws.tail i = 0) {r : Int} {st' : PS} (ht : takeV st k ws (valsV st.done k.ks ws.tail) = (r, st')) :
    lineV st s = ⟨r, at0 cs 0, st'⟩ := by
  rw [line_known E h0 h1 hk, if_neg (by omega), if_neg (by omega), if_neg hs, bad_none hz]
  dsimp only
  rw [ht]
end
theorem vals_take {cs : List CellD} {ks : List Kd} {ws : List ByteArray} {j : Nat} {kd : Kd} {x : ByteArray} (hk : ks[j]? = some kd) (hx : ws[j]? = some x) : (valsV cs ks ws).take (j + 1) = (valsV cs ks ws).take j ++ [(wordV cs kd x).1] := by
  have h : (valsV cs ks ws)[j]? = some (wordV cs kd x).1 := by
    unfold valsV
    rw [List.getElem?_map, List.getElem?_zip_eq_some (z := (kd, x)).2 ⟨hk, hx⟩]
    rfl
  rw [List.take_add_one, h]
  rfl
theorem vals_len (cs : List CellD) (ks : List Kd) (ws : List ByteArray) (h : ws.length = ks.length) : (valsV cs ks ws).length = ks.length := by
  unfold valsV
  rw [List.length_map, List.length_zip, h, Nat.min_self]
theorem code_at {cs : List CellD} {ks : List Kd} {ws : List ByteArray} {j : Nat} {kd : Kd} {x : ByteArray} (hk : ks[j]? = some kd) (hx : ws[j]? = some x) : codeAt cs ks ws j = (wordV cs kd x).2 := by
  unfold codeAt
  rw [List.getElem?_zip_eq_some (z := (kd, x)).2 ⟨hk, hx⟩]
/-- The state behind a line is within the bounds again. -/
theorem StOk.take {st : PS} (h : StOk st) {k : Kw} (hs : st.op = decide (k ≠ .cell)) (ws : List ByteArray) (v : List Int) : StOk (takeV st k ws v).2 := by
  obtain ⟨hn, ho, h1, h2, h3, h4⟩ := h
  cases k with
  | cell =>
    unfold takeV
    by_cases h8 : st.done.length = 8
    · rw [if_pos h8]; exact ⟨hn, ho, h1, h2, h3, h4⟩
    · rw [if_neg h8]; exact ⟨hn, fun _ => by dsimp only; omega, by simp, by simp, by simp, h4⟩
  | fin =>
    have := ho (by rw [hs]; decide)
    unfold takeV
    refine ⟨by simp; omega, by simp, h1, h2, h3, ?_⟩
    intro c hc
    simp only [List.mem_append, List.mem_singleton] at hc
    rcases hc with hc | rfl
    · exact h4 c hc
    · exact ⟨h1, h2, h3⟩
  | rect =>
    by_cases hl : st.cell.shapes.length = 24
    · rw [takeV_rect_lim ws v hl]; exact ⟨hn, ho, h1, h2, h3, h4⟩
    · cases hb : shapeB (shapeOf v) with
      | false => rw [takeV_rect_bad hl hb]; exact ⟨hn, ho, h1, h2, h3, h4⟩
      | true => rw [takeV_rect_ok hl hb]; exact ⟨hn, ho, by simp; omega, h2, h3, h4⟩
  | label =>
    by_cases hl : st.cell.labels.length = 8
    · rw [takeV_label_lim ws v hl]; exact ⟨hn, ho, h1, h2, h3, h4⟩
    · cases hb : labelB (labelOf ws v) with
      | false => rw [takeV_label_bad hl hb]; exact ⟨hn, ho, h1, h2, h3, h4⟩
      | true => rw [takeV_label_ok hl hb]; exact ⟨hn, ho, h1, by simp; omega, h3, h4⟩
  | place =>
    by_cases hl : st.cell.insts.length = 8
    · rw [takeV_place_lim ws v hl]; exact ⟨hn, ho, h1, h2, h3, h4⟩
    · cases hb : instB (instOf .place v) st.done.length with
      | false => rw [takeV_place_bad hl hb]; exact ⟨hn, ho, h1, h2, h3, h4⟩
      | true => rw [takeV_place_ok hl hb]; exact ⟨hn, ho, h1, h2, by simp; omega, h4⟩
  | array =>
    by_cases hl : st.cell.insts.length = 8
    · rw [takeV_array_lim ws v hl]; exact ⟨hn, ho, h1, h2, h3, h4⟩
    · cases hb : instB (instOf .array v) st.done.length with
      | false => rw [takeV_array_bad hl hb]; exact ⟨hn, ho, h1, h2, h3, h4⟩
      | true => rw [takeV_array_ok hl hb]; exact ⟨hn, ho, h1, h2, by simp; omega, h4⟩
theorem kw_op {st : PS} {k : Kw} (h : ¬ st.op = decide (k = .cell)) : st.op = decide (k ≠ .cell) := by
  cases k <;> cases e : st.op <;> simp_all
theorem StOk.line {st : PS} (h : StOk st) (s : ByteArray) : StOk (lineV st s).st := by
  obtain ⟨ws, cs, f, E⟩ : ∃ ws cs f, colsT s = ⟨ws, cs, f⟩ := ⟨_, _, _, rfl⟩
  by_cases h0 : ws = []
  · rw [line_empty E h0]; exact h
  by_cases h1 : (wAt ws 0).data.toList.head? = some 35
  · rw [line_note E h1]; exact h
  cases hk : kwOf (wAt ws 0) with
  | none => rw [line_unknown E h0 h1 hk]; exact h
  | some k =>
    rw [line_known E h0 h1 hk]
    split
    · exact h
    · split
      · exact h
      · split
        · exact h
        · rename_i h5
          split
          · exact h
          · exact h.take (kw_op h5) _ _
theorem StOk.zero : StOk ps0 := ⟨by decide, by decide, by decide, by decide, by decide, by intro c hc; cases hc⟩

theorem IL.cellAt {w : World} {B g n c : Nat} {xs : List Int} (h : IL w B (.slice (some ⟨g, 0, none⟩) n c) xs) {k : Nat} {x : Int} (hx : xs[k]? = some x) : w.cell? ⟨g, k, none⟩ = some (.int .i64 x) := by
  obtain ⟨g2, e, -, -, hc⟩ := ints_at h (Nat.lt_of_le_of_lt (Nat.zero_le k) (List.getElem?_eq_some_iff.1 hx).1)
  obtain rfl : g = g2 := by simpa using e
  exact hc k x hx
theorem word_new {cs : List CellD} {x : ByteArray} {a b : Int} (h : wordV cs .nam x = (a, b)) : (b ≠ 0 → wordV cs .new x = (a, b)) ∧ (b = 0 → a = 0 ∧ wordV cs .new x = if 0 ≤ idxC cs x then (0, 6) else (0, 0)) := by
  simp only [wordV] at h ⊢
  cases hn : nameB x with
  | true =>
    rw [hn] at h
    simp only [if_true, Prod.mk.injEq] at h
    obtain ⟨rfl, rfl⟩ := h
    exact ⟨fun h => absurd rfl h, fun _ => ⟨rfl, by simp⟩⟩
  | false =>
    rw [hn] at h
    simp only [Bool.false_eq_true, if_false, Prod.mk.injEq] at h
    obtain ⟨rfl, rfl⟩ := h
    exact ⟨fun _ => by simp, fun h => absurd h (by decide)⟩

/-- What taking a line of any keyword answers, as a hypothesis for the line's walk. -/
def TakesX (f : Nat) (t : TypeId) (pv : Value → PS → Sl3 → Array Value) : Prop :=
  ∀ (k : Kw) (A : Option Addr) (n c : Nat) (B2 : Option Addr) (m2 c2 : Nat) (ws : List ByteArray) (v : List Int) (B g : Nat) (st : PS) (cv : Value) (ps : List (CellD × Sl3)) (u : Sl3) (w : World), PMx t pv w B g st cv ps u → StOk st → SL w 0 (.slice A n c) ws → n = ws.length → ws[0]? = some k.txt → ws.length = k.ks.length + 1 → st.op = decide (k ≠ .cell) → (∀ x ∈ ws, x.size ≤ maxLen) →
    IL w 0 (.slice B2 m2 c2) v → v.length = k.ks.length → Calls Tryz.prog f #[.pointer (some ⟨g, 0, none⟩), .slice A n c, .slice B2 m2 c2] w (TakeAns t pv st k ws v B g w)
abbrev TakesI : Prop := TakesX 64 83 pvI
/-- What reading a line answers. -/
def LineAns (t : TypeId) (pv : Value → PS → Sl3 → Array Value) (st : PS) (s : ByteArray) (B g : Nat) (w : World) (e : Ending) (w' : World) : Prop :=
  ∃ a b st' cv' ps' u', e = .returned (.tuple #[.int .i64 a, .int .i64 b]) ∧ Hid (lineV st s = ⟨a, b, st'⟩) ∧ PMx t pv w' B g st' cv' ps' u' ∧ Below B w w'

end Go.Proofs.YtcckamhokdodnaaGreatDoor

namespace Go.Proofs.YtcckamhokdodnaaGreatDoor
open Go.RowKit

theorem head_at {s : ByteArray} (h : 0 < s.size) : s.data.toList.head? = some s[0] := by
  rw [List.head?_eq_getElem?, List.getElem?_eq_getElem (by simpa using h)]
  rfl

set_option maxHeartbeats 3200000 in
set_option maxRecDepth 100000 in
theorem line_impl (hT : TakesI) (s : ByteArray) (B g : Nat) (st : PS) (cv : Value) (ps : List (CellD × Sl3)) (u : Sl3) (w : World) (hP : PMi w B g st cv ps u) (hO : StOk st) (hE : EnvP B w) (hs : s.size ≤ 1000000) :
    Calls Tryz.prog 32 #[.pointer (some ⟨g, 0, none⟩), .string s] w (LineAns 83 pvI st s B g w) := by
  obtain ⟨ws, cs, f, hE0⟩ : ∃ ws cs f, colsT s = ⟨ws, cs, f⟩ := ⟨_, _, _, rfl⟩
  have E := Lib.hid hE0
  have hcl : cs.length = ws.length := by have h := cols_len s; rwa [hE0] at h
  have hww : ∀ x ∈ ws, x.size ≠ 0 := by have h := cols_words s; rwa [hE0] at h
  have hwl : ∀ x ∈ ws, x.size ≤ s.size := by have h := (cols_small s).2; rwa [hE0] at h
  have Hww := Lib.hid hww
  have Hwl := Lib.hid hwl
  have HP := Lib.hid hP
  have hBw : B ≤ w.heap.size := Nat.le_trans hP.hg (Nat.le_of_lt hP.bk.lt)
  have HE := Lib.hid hE
  have HO := Lib.hid hO
  obtain ⟨n, hn⟩ : ∃ n, ws.length = n := ⟨_, rfl⟩
  rw [hn] at hcl
  have Hn := Lib.hid hn
  have Hc := Lib.hid hcl
  clear hE0 hww hwl hP hE hO
  go_enter Tryz.func32, Tryz.ntmps32
  go_wp2_with fail
  refine (cols_impl s _ hs).mono ?_
  rintro e w1 ⟨v, uv, rfl, hS, hI, hb1⟩
  rw [E.out] at hS hI
  dsimp only at hS hI
  obtain ⟨A, c, e1, -, hm⟩ := hS.form
  obtain ⟨A2, c2, e2, -, hm2⟩ := hI.form
  rw [hn] at e1
  rw [hcl] at e2
  subst e1 e2
  have HS := Lib.hid hS
  have HI := Lib.hid hI
  have HP1 := Lib.hid (HP.out.on hb1)
  have HB1 := Lib.hid (hb1.mono hBw)
  have HB1s : w.heap.size ≤ w1.heap.size := hb1.size
  have HE1 := Lib.hid (HE.out.on HB1.out)
  clear hn hcl hS hI hb1
  by_cases h0 : n = 0
  · subst h0
    have Hv := Lib.hid (line_empty (st := st) E.out (List.eq_nil_of_length_eq_zero Hn.out))
    go_wp2
    go_ret2
    exact ⟨_, _, _, _, _, _, rfl, Hv, HP1.out, HB1.out⟩
  have hp : 0 < n := by omega
  obtain ⟨gw, x0, rfl, hx0, -, hgw, cw0⟩ := HS.out.elem (k := 0) (by rw [Hn.out]; exact hp)
  obtain ⟨gc, rfl, hgc, -, hcc⟩ := ints_at HI.out (by rw [Hc.out]; exact hp)
  have Hcc := Lib.hid hcc
  have Hx0 := Lib.hid hx0
  have Hne : Hid (ws ≠ []) := Lib.hid (fun e => by have h := Hn.out; rw [e] at h; simp at h; omega)
  have hxm := List.mem_of_getElem? hx0
  have hxp : 0 < x0.size := Nat.pos_of_ne_zero (Hww.out x0 hxm)
  have hxs : x0.size ≤ s.size := Hwl.out x0 hxm
  have Hw0 : Hid (wAt ws 0 = x0) := Lib.hid (wAt_at hx0)
  have Hhd := Lib.hid (head_at hxp)
  obtain ⟨c0, hc0⟩ : ∃ c0, cs[0]? = some c0 := ⟨_, List.getElem?_eq_getElem (by rw [Hc.out]; exact hp)⟩
  have Hc0 := Lib.hid (at0_at hc0)
  have Hcs0 := Lib.hid hc0
  have cc0 := hcc 0 c0 hc0
  clear hx0 hxm hcc hc0
  by_cases h35 : x0[0] = 35
  · have Hv := Lib.hid (line_note (st := st) E.out (by rw [Hw0.out, Hhd.out, h35]))
    have h36 : ((x0[0].toNat : Int) == 35) = true := by rw [h35]; rfl
    have h37 : (x0[0].toNat : Int) = 35 := by rw [h35]; rfl
    go_wp2
    go_ret2
    exact ⟨_, _, _, _, _, _, rfl, Hv, HP1.out, HB1.out⟩
  have Hh1 : Hid ((wAt ws 0).data.toList.head? ≠ some 35) := Lib.hid (by rw [Hw0.out, Hhd.out]; simpa using h35)
  have h33 : ¬ ((x0[0].toNat : Int) = 35) := fun h => h35 (UInt8.toNat_inj.1 (by have e : (35 : UInt8).toNat = 35 := rfl; rw [e]; omega))
  have h34 : ((x0[0].toNat : Int) == 35) = false := by simpa using h33
  have hd0 : ∀ m, Below w1.heap.size w1 (w1.drewN m) := fun m => below_drewN (Below.refl _ _) m
  have key : ∀ m : Nat, Hid (PMi (w1.drewN m) B g st cv ps u) ∧ Hid (Below B w (w1.drewN m)) ∧ Hid (EnvP B (w1.drewN m)) ∧ Hid (SL (w1.drewN m) w.heap.size (.slice (some ⟨gw, 0, none⟩) n c) ws) ∧ Hid (IL (w1.drewN m) w.heap.size (.slice (some ⟨gc, 0, none⟩) n c2) cs) ∧ gw < (w1.drewN m).heap.size ∧ gc < (w1.drewN m).heap.size ∧ (w1.drewN m).cell? ⟨gw, 0, none⟩ = some (.string x0) ∧ (w1.drewN m).cell? ⟨gc, 0, none⟩ = some (.int .i64 c0) := fun m =>
    ⟨Lib.hid (HP1.out.on (hd0 m)), Lib.hid (HB1.out.trans ((hd0 m).mono (Nat.le_trans hBw HB1s))), Lib.hid (HE1.out.on ((hd0 m).mono (Nat.le_trans hBw HB1s))), Lib.hid (HS.out.on (hd0 m)), Lib.hid (HI.out.on (hd0 m)), Nat.lt_of_lt_of_le hgw (hd0 m).size, Nat.lt_of_lt_of_le hgc (hd0 m).size, ((hd0 m).cell (p := ⟨gw, 0, none⟩) hgw).trans cw0, ((hd0 m).cell (p := ⟨gc, 0, none⟩) hgc).trans cc0⟩
  clear hd0
  cases hk : kwOf x0 with
  | none =>
    have Hv := Lib.hid (line_unknown (st := st) E.out Hne.out Hh1.out (by rw [Hw0.out]; exact hk))
    have Hcnt := Lib.hid (cntI_none hk)
    rw [Hc0.out] at Hv
    have hq : ∀ w : World, Calls Tryz.prog 61 #[.string x0] w fun e w' => e = .returned (.int .i64 0) ∧ w' = w := fun w => by have h := cntI_any x0 w; rwa [Hcnt.out] at h
    go_wp2
    go_quiet (first | (go_at_call 61; refine Calls.quiet_of_same (hq _)))
    obtain ⟨HPd, HBd, HEd, HSd, HId, hgw2, hgc2, cw2, cc2⟩ := key nq
    clear key cw0 cc0 HP1 HB1 HE1 HS HI Hcc hgw hgc hq
    have hBs : B ≤ (w1.drewN nq).heap.size := Nat.le_trans HPd.out.hg (Nat.le_of_lt HPd.out.bk.lt)
    generalize w1.drewN nq = w2 at *
    have Hd := Lib.hid (fun m => below_drewN (Below.refl w2.heap.size w2) m)
    go_wp2
    go_quiet (fail)
    go_wp2
    go_ret2
    exact ⟨_, _, _, _, _, _, rfl, Hv, HPd.out.on (Hd.out _), HBd.out.trans ((Hd.out _).mono hBs)⟩
  | some k =>
    have Hcnt := Lib.hid (cntI_some hk)
    have Hk : Hid (kwOf (wAt ws 0) = some k) := Lib.hid (by rw [Hw0.out]; exact hk)
    have Hkk := Lib.hid hk
    obtain ⟨m, hm9⟩ : ∃ m, k.ks.length = m := ⟨_, rfl⟩
    have hm8 : m ≤ 8 := by rw [← hm9]; exact kw_len k
    have Hm := Lib.hid hm9
    rw [hm9] at Hcnt
    clear hk hm9
    have hm1 : ¬ ((m : Int) + 1 = 0) := by omega
    have hm2 : ((m : Int) + 1 == 0) = false := beq_eq_false_iff_ne.2 hm1
    rcases Nat.lt_trichotomy n (m + 1) with hlt | heq | hgt
    · have Hv := Lib.hid (line_short (st := st) E.out Hne.out Hh1.out Hk.out (by rw [Hn.out, Hm.out]; exact hlt))
      have hq : ∀ w : World, Calls Tryz.prog 61 #[.string x0] w fun e w' => e = .returned (.int .i64 ((m : Int) + 1)) ∧ w' = w := fun w => by have h := cntI_any x0 w; rwa [Hcnt.out] at h
      go_wp2
      go_quiet (first | (go_at_call 61; refine Calls.quiet_of_same (hq _)))
      obtain ⟨HPd, HBd, HEd, HSd, HId, hgw2, hgc2, cw2, cc2⟩ := key nq
      clear key cw0 cc0 HP1 HB1 HE1 HS HI Hcc hgw hgc hq
      have hBs : B ≤ (w1.drewN nq).heap.size := Nat.le_trans HPd.out.hg (Nat.le_of_lt HPd.out.bk.lt)
      generalize w1.drewN nq = w2 at *
      have Hd := Lib.hid (fun m => below_drewN (Below.refl w2.heap.size w2) m)
      go_wp2
      go_ret2
      exact ⟨_, _, _, _, _, _, rfl, Hv, HPd.out, HBd.out⟩
    · have hq : ∀ w : World, Calls Tryz.prog 61 #[.string x0] w fun e w' => e = .returned (.int .i64 ((m : Int) + 1)) ∧ w' = w := fun w => by have h := cntI_any x0 w; rwa [Hcnt.out] at h
      go_wp2
      go_quiet (first | (go_at_call 61; refine Calls.quiet_of_same (hq _)))
      obtain ⟨HPd, HBd, HEd, HSd, HId, hgw2, hgc2, cw2, cc2⟩ := key nq
      clear key cw0 cc0 HP1 HB1 HE1 HS HI Hcc hgw hgc hq
      have hBs : B ≤ (w1.drewN nq).heap.size := Nat.le_trans HPd.out.hg (Nat.le_of_lt HPd.out.bk.lt)
      generalize w1.drewN nq = w2 at *
      have Hd := Lib.hid (fun m => below_drewN (Below.refl w2.heap.size w2) m)
      subst heq
      rcases Decidable.em (k = .cell) with hkc | hkc
      · have hx : x0 = ⟨#[99, 101, 108, 108]⟩ := (kw_cell Hkk.out).2 hkc
        cases hop : st.op with
        | true =>
          have b5 : w2.cell? ⟨g, 5, none⟩ = some (.bool true) := by have h : w2.cell? ⟨g, 5, none⟩ = some (.bool st.op) := HPd.out.bk.cell 5; rwa [hop] at h
          have Hv := Lib.hid (line_state (st := st) E.out Hne.out Hh1.out Hk.out (by rw [Hn.out, Hm.out]) (by rw [hop]; simp [hkc]))
          rw [Hc0.out] at Hv
          subst hx
          go_wp2
          go_quiet (fail)
          go_wp2
          go_ret2
          exact ⟨_, _, _, _, _, _, rfl, Hv, HPd.out.on (Hd.out _), HBd.out.trans ((Hd.out _).mono hBs)⟩
        | false =>
          have hx2 : (x0.toList == [99, 101, 108, 108]) = true := by subst hx; simp
          have Hkc := Lib.hid hkc
          clear hx hkc
          have b5 : w2.cell? ⟨g, 5, none⟩ = some (.bool false) := by have h : w2.cell? ⟨g, 5, none⟩ = some (.bool st.op) := HPd.out.bk.cell 5; rwa [hop] at h
          have Hkin := Lib.hid (kinI_some Hkk.out)
          have hks : ∀ w : World, Calls Tryz.prog 62 #[.string x0] w fun e w' => e = .returned (.string (kinI x0)) ∧ w = w' := fun w => (kinI_any x0 w).mono fun e w' h => ⟨h.1, h.2.symm⟩
          obtain ⟨K, hK⟩ : ∃ K, kinI x0 = K := ⟨_, rfl⟩
          rw [hK] at hks Hkin
          have hKs : K.size = m := by rw [Hkin.out, ← Hm.out]; simp [ByteArray.size]
          have HKat : Hid (∀ (j : Nat) (kd : Kd) (h : j < K.size), k.ks[j]? = some kd → (K[j].toNat : Int) = (kd.lo.toNat : Int)) := Lib.hid (by
            intro j kd h hj
            have e : K.data.toList[j]? = some kd.lo := by rw [Hkin.out]; simp [hj]
            have e2 : K.data.toList[j]? = some K[j] := by rw [List.getElem?_eq_getElem (by simpa using h)]; rfl
            rw [e2] at e
            rw [Option.some.inj e])
          have Hop : Hid (¬ st.op = decide (k = .cell)) := Lib.hid (by rw [hop]; simp [Hkc.out])
          have Hsm : Hid (∀ x ∈ ws, x.size ≤ 1000000) := Lib.hid (fun x hx => Nat.le_trans (Hwl.out x hx) hs)
          have i0 : IL (w2.alloc (.cells #[] 2)) w2.heap.size (.slice (some ⟨w2.heap.size, 0, none⟩) 0 0) [] := World.ownsRow_lit w2 #[] 0 (Nat.le_refl _) (by simp [maxLen]) rfl
          go_wp2_with (go_at_call 62; refine (hks _).mono ?_; rintro e w3 ⟨rfl, rfl⟩)
          go_loopw [11, 12] (fun nv iv wr => ∃ j : Nat, j ≤ m ∧ iv = .int .i64 ((j : Int) + 1) ∧ IL wr w2.heap.size nv ((valsV st.done k.ks ws.tail).take j) ∧ Hid (∀ i, i < j → codeAt st.done k.ks ws.tail i = 0) ∧ Below w2.heap.size w2 wr) (fun _ iv _ => m + 1 - (intOf iv).toNat)
          case atStart => exact ⟨0, Nat.zero_le _, rfl, i0, Lib.hid (fun i h => absurd h (Nat.not_lt_zero _)), (Below.refl _ _).alloc (Nat.le_refl _) _⟩
          case round =>
            obtain ⟨j, hj, rfl, hV, Hz, hb⟩ := hrel
            have hHP := Lib.hid (HPd.out.on hb)
            have HBr := Lib.hid (HBd.out.trans (hb.mono hBs))
            have HSr := Lib.hid (HSd.out.on hb)
            have HIr := Lib.hid (HId.out.on hb)
            have HEr := Lib.hid (HEd.out.on (hb.mono hBs))
            have HV := Lib.hid hV
            have hBr : B ≤ wr.heap.size := Nat.le_trans hBs hb.size
            clear hV
            by_cases hlt : j < m
            · obtain ⟨kd, hkd⟩ : ∃ kd, k.ks[j]? = some kd := ⟨_, List.getElem?_eq_getElem (by rw [Hm.out]; exact hlt)⟩
              obtain ⟨gw9, x, e9, hx9, -, hgw9, cwj⟩ := HSr.out.elem (k := j + 1) (by rw [Hn.out]; omega)
              obtain rfl : gw = gw9 := by simpa using e9
              have hxt : ws.tail[j]? = some x := by rw [List.getElem?_tail]; exact hx9
              have Hcode := Lib.hid (code_at (cs := st.done) hkd hxt)
              have Hval := Lib.hid (vals_take (cs := st.done) hkd hxt)
              have hkj : j < K.size := by omega
              have HKj := Lib.hid (HKat.out j kd hkj hkd)
              have hxs9 := Hsm.out x (List.mem_of_getElem? hx9)
              have hkn : kd = .new := by have hkc := Hkc.out; subst hkc; match j, hlt, hkd with | 0, _, hkd => exact (Option.some.inj hkd).symm
              subst hkn
              have HKj : Hid ((K[j].toNat : Int) = ((Kd.nam).lo.toNat : Int)) := Lib.hid HKj.out
              obtain ⟨cj, hcj⟩ : ∃ cj, cs[j + 1]? = some cj := ⟨_, List.getElem?_eq_getElem (by rw [Hc.out]; omega)⟩
              have Hcj := Lib.hid (at0_at hcj)
              obtain ⟨g3, e3, hg3, -, hcc⟩ := ints_at HIr.out (by rw [Hc.out]; exact hp)
              obtain rfl : gc = g3 := by simpa using e3
              have ccj := hcc _ _ hcj
              have hj9 : j < 9223372036854775806 := by omega
              clear hcc hcj e3 hx9 e9 hxt hkd
              have hwr : IntKind.i64.wrap (j : Int) = (j : Int) := IntWalk.i64_in _ (by omega)
              have hj1 : (0 : Int) ≤ (j : Int) + 1 := by omega
              have hj2 : (j : Int) + 1 < (m : Int) + 1 := by omega
              go_wp2
              have hd1 : Below wr.heap.size wr wr.drew := (Below.refl _ _).drew
              have cwd : wr.drew.cell? ⟨gw, j + 1, none⟩ = some (.string x) := cwj
              go_region_held3 (fun w' => w'.cell? ⟨gw, j + 1, none⟩ = some (.string x)) (first | (with_reducible exact cwj) | (with_reducible exact cwd) | (with_reducible exact cw5)) ((go_at_call 63; refine (word_impl .nam (by decide) _ HKj.out x B g st cv ps u _ (hHP.out.on hd1) hxs9 (HEr.out.on (hd1.mono hBr))).mono ?_; rintro e w5 ⟨a, b, rfl, Hw, hb5⟩; (have cw5 : w5.cell? ⟨gw, j + 1, none⟩ = some (.string x) := (hb5.cell (p := ⟨gw, j + 1, none⟩) hgw9).trans cwd)))
              go_wp2
              have hb6 : Below wr.heap.size wr w5 := hd1.trans hb5
              have ccj5 : w5.cell? ⟨gc, j + 1, none⟩ = some (.int .i64 cj) := (hb6.cell (p := ⟨gc, j + 1, none⟩) hg3).trans ccj
              have HV5 := Lib.hid (HV.out.on hb6)
              have Hb5 := Lib.hid (hb.trans (hb6.mono hb.size))
              have hs5 := Hb5.out.size
              clear hb5 hd1
              have HP5 := Lib.hid (hHP.out.on hb6)
              have HB5 := Lib.hid (HBr.out.trans (hb6.mono hBr))
              have hB5 : B ≤ w5.heap.size := Nat.le_trans hBr hb6.size
              have hq1 : ∀ q r : Nat, Below w5.heap.size w5 ((w5.drewN q).drewN r) := fun q r => below_drewN (below_drewN (Below.refl _ _) q) r
              have hq0 : ∀ q : Nat, Below w5.heap.size w5 (w5.drewN q) := fun q => below_drewN (Below.refl _ _) q
              have HV6 : ∀ q : Nat, IL (w5.drewN q) w2.heap.size _ _ := fun q => HV5.out.on (hq0 q)
              have hs6 : ∀ q : Nat, w2.heap.size ≤ (w5.drewN q).heap.size := fun q => hs5
              have Hb6 : ∀ q : Nat, Below w2.heap.size w2 (w5.drewN q) := fun q => Hb5.out.trans ((hq0 q).mono hs5)
              have hvl : ((valsV st.done k.ks ws.tail).take j).length ≤ 1000000 := by rw [List.length_take]; omega
              by_cases hb0 : b = 0
              · subst hb0
                obtain ⟨rfl, hwn⟩ := (word_new Hw.out).2 rfl
                obtain ⟨z, hz⟩ : ∃ z, idxC st.done x = z := ⟨_, rfl⟩
                rw [hz] at hwn
                have Hz9 : Hid (idxF (fun c => eqName c.name x) st.done = z) := Lib.hid hz
                clear hz
                obtain ⟨A9, c9, e9, -, -⟩ := HP5.out.lib.form
                rw [HP5.out.len] at e9
                have b0 : w5.cell? ⟨g, 0, none⟩ = some cv := HP5.out.bk.cell 0
                have b0d : w5.drew.cell? ⟨g, 0, none⟩ = some cv := b0
                have cw5d : w5.drew.cell? ⟨gw, j + 1, none⟩ = some (.string x) := cw5
                have hgw5 : gw < w5.heap.size := Nat.lt_of_lt_of_le hgw9 hb6.size
                have hgl5 : g < w5.heap.size := HP5.out.bk.lt
                have HL5 := Lib.hid ((HP5.out.on (Below.refl _ _).drew).libV.less (Nat.zero_le B))
                have HPe := Lib.hid (HP5.out.on (Below.refl _ _).drew)
                have HBe := Lib.hid HB5.out.drew
                have HVe := Lib.hid (HV5.out.on (Below.refl _ _).drew)
                have Hbe := Lib.hid Hb5.out.drew
                have ccj6 : w5.drew.cell? ⟨gc, j + 1, none⟩ = some (.int .i64 cj) := ccj5
                have hgc5 : gc < w5.heap.size := Nat.lt_of_lt_of_le hg3 hb6.size
                clear hq1 hq0 HV6 hs6 Hb6 hb6
                subst e9
                go_region_held3 (fun w' => w'.cell? ⟨g, 0, none⟩ = some (.slice A9 st.done.length c9) ∧ w'.cell? ⟨gw, j + 1, none⟩ = some (.string x)) (first | (with_reducible exact ⟨b0, cw5⟩) | (with_reducible exact ⟨b0d, cw5d⟩) | (with_reducible exact ⟨b06, cw6⟩)) ((go_at_call 42; refine (named_any _ st.done x _ HL5.out).mono ?_; rintro e w6 ⟨rfl, hb7⟩; rw [show idxF (fun c => eqName c.name x) st.done = z from Hz9.out]; (have b06 : w6.cell? ⟨g, 0, none⟩ = some (.slice A9 st.done.length c9) := (hb7.cell (p := ⟨g, 0, none⟩) hgl5).trans b0d); (have cw6 : w6.cell? ⟨gw, j + 1, none⟩ = some (.string x) := (hb7.cell (p := ⟨gw, j + 1, none⟩) hgw5).trans cw5d)))
                have ccj7 : w6.cell? ⟨gc, j + 1, none⟩ = some (.int .i64 cj) := (hb7.cell (p := ⟨gc, j + 1, none⟩) hgc5).trans ccj6
                have HP7 := Lib.hid (HPe.out.on hb7)
                have HB7 := Lib.hid (HBe.out.trans (hb7.mono hB5))
                have hB7 : B ≤ w6.heap.size := Nat.le_trans hB5 hb7.size
                have HV7 := Lib.hid (HVe.out.on hb7)
                have Hb7 := Lib.hid (Hbe.out.trans (hb7.mono hs5))
                have hs7 := Hb7.out.size
                clear hb7
                by_cases h0z : 0 ≤ z
                · have hz2 : ¬ z < 0 := by omega
                  have Hww5 : Hid (wordV st.done .new x = (0, 6)) := Lib.hid (by rw [hwn, if_pos h0z])
                  have Hv := Lib.hid (line_bad (st := st) E.out Hne.out Hh1.out Hk.out (by rw [Hn.out, Hm.out]) Hop.out (by rw [Hm.out]; exact hlt) Hz.out (by rw [Hcode.out, Hww5.out]; decide))
                  rw [Hcode.out, Hww5.out, Hcj.out] at Hv
                  go_wp2
                  go_quiet (fail)
                  go_wp2
                  go_ret2
                  exact ⟨_, _, _, _, _, _, rfl, Hv, HP7.out.on (below_drewN (Below.refl _ _) _), HB7.out.trans ((below_drewN (Below.refl _ _) _).mono hB7)⟩
                · have hz2 : z < 0 := by omega
                  have Hww5 : Hid (wordV st.done .new x = (0, 0)) := Lib.hid (by rw [hwn, if_neg h0z])
                  have HVn : Hid ((valsV st.done k.ks ws.tail).take (j + 1) = (valsV st.done k.ks ws.tail).take j ++ [0]) := Lib.hid (by rw [Hval.out, Hww5.out])
                  have Hzn : Hid (∀ i, i < j + 1 → codeAt st.done k.ks ws.tail i = 0) := Lib.hid (fun i hi => by
                    rcases Nat.lt_or_ge i j with h | h
                    · exact Hz.out i h
                    · obtain rfl : i = j := by omega
                      rw [Hcode.out, Hww5.out])
                  go_wp2_with (at_builtin; refine wpList_append_I rfl (.tmp 117) (.tmp 119) rfl w2.heap.size _ ((valsV st.done k.ks ws.tail).take j) rfl HV7.out 0 rfl hvl hs7 ?_; intro v7 w7 h71 h72 h73)
                  go_roundw
                  case rel => exact ⟨j + 1, hlt, by go_num, by rw [HVn.out]; exact h71, Hzn, Hb7.out.trans h73⟩
                  case measure => simp [intOf] <;> omega
              · have hb1 : (b == 0) = false := beq_eq_false_iff_ne.2 hb0
                have Hww5 := Lib.hid ((word_new Hw.out).1 hb0)
                have Hv := Lib.hid (line_bad (st := st) E.out Hne.out Hh1.out Hk.out (by rw [Hn.out, Hm.out]) Hop.out (by rw [Hm.out]; exact hlt) Hz.out (by rw [Hcode.out, Hww5.out]; exact hb0))
                rw [Hcode.out, Hww5.out, Hcj.out] at Hv
                clear hb6
                go_quiet (fail)
                go_wp2
                go_quiet (fail)
                go_wp2
                go_ret2
                exact ⟨_, _, _, _, _, _, rfl, Hv, HP5.out.on (hq1 _ _), HB5.out.trans ((hq1 _ _).mono hB5)⟩
            · obtain rfl : m = j := by omega
              have HVm : Hid ((valsV st.done k.ks ws.tail).take m = valsV st.done k.ks ws.tail) := Lib.hid (List.take_of_length_le (by rw [vals_len _ _ _ (by rw [List.length_tail, Hn.out, Hm.out]; rfl), Hm.out]; exact Nat.le_refl _))
              have HV7 := HV.out
              rw [HVm.out] at HV7
              obtain ⟨A3, c3, e7, -, -⟩ := HV7.form
              subst e7
              have HV8 := Lib.hid (HV7.less (Nat.zero_le _))
              clear HV7
              have cc9 : wr.cell? ⟨gc, 0, none⟩ = some (.int .i64 c0) := HIr.out.cellAt Hcs0.out
              have cc8 : wr.drew.cell? ⟨gc, 0, none⟩ = some (.int .i64 c0) := cc9
              have HId8 := Lib.hid HIr.out.drew
              have HT : Hid (Calls Tryz.prog 64 #[.pointer (some ⟨g, 0, none⟩), .slice (some ⟨gw, 0, none⟩) (m + 1) c, .slice A3 (valsV st.done k.ks ws.tail).length c3] wr.drew (TakeAns 83 pvI st k ws (valsV st.done k.ks ws.tail) B g wr.drew)) := Lib.hid
                (hT k _ _ _ _ _ _ ws (valsV st.done k.ks ws.tail) B g st cv ps u _ (hHP.out.on (Below.refl _ _).drew) HO.out (HSr.out.drew.less (Nat.zero_le _)) Hn.out.symm (by rw [Hx0.out, kwOf_some Hkk.out]) (by rw [Hn.out, Hm.out]) (kw_op Hop.out) (fun x hx => by have := Hsm.out x hx; unfold maxLen; omega) HV8.out.drew (vals_len _ _ _ (by rw [List.length_tail, Hn.out, Hm.out]; rfl)))
              have hdw := HBr.out.drew
              have Hdw := Lib.hid hdw
              clear hdw
              go_wp2
              go_region_held3 (fun w' => w'.cell? ⟨gc, 0, none⟩ = some (.int .i64 c0)) (first | (with_reducible exact cc9) | (with_reducible exact cc8) | (with_reducible exact cc10)) ((go_at_call 64; refine HT.out.mono ?_; rintro e w5 ⟨r, st', cv', ps', u', rfl, Ht, HPt, hbt, hki⟩; (have cc10 : w5.cell? ⟨gc, 0, none⟩ = some (.int .i64 c0) := (hki _ _ _ HId8.out).cellAt Hcs0.out)))
              all_goals
                go_wp2
                go_ret2
                have Hv := Lib.hid (line_take (st := st) E.out Hne.out Hh1.out Hk.out (by rw [Hn.out, Hm.out]) Hop.out (by rw [Hm.out]; exact Hz.out) Ht.out)
                rw [Hc0.out] at Hv
                exact ⟨_, _, _, _, _, _, rfl, Hv, HPt, Hdw.out.trans hbt⟩
      · have hx : ¬ x0 = kwCell := fun e => hkc ((kw_cell Hkk.out).1 e)
        have hx2 : (x0.toList == [99, 101, 108, 108]) = false := by have h := ne_list (show ¬ x0 = ⟨#[99, 101, 108, 108]⟩ from hx); simpa using h
        cases hop : st.op with
        | false =>
          have b5 : w2.cell? ⟨g, 5, none⟩ = some (.bool false) := by have h : w2.cell? ⟨g, 5, none⟩ = some (.bool st.op) := HPd.out.bk.cell 5; rwa [hop] at h
          have Hv := Lib.hid (line_state (st := st) E.out Hne.out Hh1.out Hk.out (by rw [Hn.out, Hm.out]) (by rw [hop]; simp [hkc]))
          rw [Hc0.out] at Hv
          go_wp2
          go_quiet (fail)
          go_wp2
          go_ret2
          exact ⟨_, _, _, _, _, _, rfl, Hv, HPd.out.on (Hd.out _), HBd.out.trans ((Hd.out _).mono hBs)⟩
        | true =>
          have b5 : w2.cell? ⟨g, 5, none⟩ = some (.bool true) := by have h : w2.cell? ⟨g, 5, none⟩ = some (.bool st.op) := HPd.out.bk.cell 5; rwa [hop] at h
          have Hkin := Lib.hid (kinI_some Hkk.out)
          have hks : ∀ w : World, Calls Tryz.prog 62 #[.string x0] w fun e w' => e = .returned (.string (kinI x0)) ∧ w = w' := fun w => (kinI_any x0 w).mono fun e w' h => ⟨h.1, h.2.symm⟩
          obtain ⟨K, hK⟩ : ∃ K, kinI x0 = K := ⟨_, rfl⟩
          rw [hK] at hks Hkin
          have hKs : K.size = m := by rw [Hkin.out, ← Hm.out]; simp [ByteArray.size]
          have HKat : Hid (∀ (j : Nat) (kd : Kd) (h : j < K.size), k.ks[j]? = some kd → (K[j].toNat : Int) = (kd.lo.toNat : Int)) := Lib.hid (by
            intro j kd h hj
            have e : K.data.toList[j]? = some kd.lo := by rw [Hkin.out]; simp [hj]
            have e2 : K.data.toList[j]? = some K[j] := by rw [List.getElem?_eq_getElem (by simpa using h)]; rfl
            rw [e2] at e
            rw [Option.some.inj e])
          have Hop : Hid (¬ st.op = decide (k = .cell)) := Lib.hid (by rw [hop]; simpa using hkc)
          have Hsm : Hid (∀ x ∈ ws, x.size ≤ 1000000) := Lib.hid (fun x hx => Nat.le_trans (Hwl.out x hx) hs)
          have i0 : IL (w2.alloc (.cells #[] 2)) w2.heap.size (.slice (some ⟨w2.heap.size, 0, none⟩) 0 0) [] := World.ownsRow_lit w2 #[] 0 (Nat.le_refl _) (by simp [maxLen]) rfl
          go_wp2_with (go_at_call 62; refine (hks _).mono ?_; rintro e w3 ⟨rfl, rfl⟩)
          go_loopw [11, 12] (fun nv iv wr => ∃ j : Nat, j ≤ m ∧ iv = .int .i64 ((j : Int) + 1) ∧ IL wr w2.heap.size nv ((valsV st.done k.ks ws.tail).take j) ∧ Hid (∀ i, i < j → codeAt st.done k.ks ws.tail i = 0) ∧ Below w2.heap.size w2 wr) (fun _ iv _ => m + 1 - (intOf iv).toNat)
          case atStart => exact ⟨0, Nat.zero_le _, rfl, i0, Lib.hid (fun i h => absurd h (Nat.not_lt_zero _)), (Below.refl _ _).alloc (Nat.le_refl _) _⟩
          case round =>
            obtain ⟨j, hj, rfl, hV, Hz, hb⟩ := hrel
            have hHP := Lib.hid (HPd.out.on hb)
            have HBr := Lib.hid (HBd.out.trans (hb.mono hBs))
            have HSr := Lib.hid (HSd.out.on hb)
            have HIr := Lib.hid (HId.out.on hb)
            have HEr := Lib.hid (HEd.out.on (hb.mono hBs))
            have HV := Lib.hid hV
            have hBr : B ≤ wr.heap.size := Nat.le_trans hBs hb.size
            clear hV
            by_cases hlt : j < m
            · obtain ⟨kd, hkd⟩ : ∃ kd, k.ks[j]? = some kd := ⟨_, List.getElem?_eq_getElem (by rw [Hm.out]; exact hlt)⟩
              obtain ⟨gw9, x, e9, hx9, -, hgw9, cwj⟩ := HSr.out.elem (k := j + 1) (by rw [Hn.out]; omega)
              obtain rfl : gw = gw9 := by simpa using e9
              have hxt : ws.tail[j]? = some x := by rw [List.getElem?_tail]; exact hx9
              have Hcode := Lib.hid (code_at (cs := st.done) hkd hxt)
              have Hval := Lib.hid (vals_take (cs := st.done) hkd hxt)
              have hkj : j < K.size := by omega
              have HKj := Lib.hid (HKat.out j kd hkj hkd)
              have hxs9 := Hsm.out x (List.mem_of_getElem? hx9)
              have hkn : kd ≠ .new := ks_new hkc kd (List.mem_of_getElem? hkd)
              obtain ⟨cj, hcj⟩ : ∃ cj, cs[j + 1]? = some cj := ⟨_, List.getElem?_eq_getElem (by rw [Hc.out]; omega)⟩
              have Hcj := Lib.hid (at0_at hcj)
              obtain ⟨g3, e3, hg3, -, hcc⟩ := ints_at HIr.out (by rw [Hc.out]; exact hp)
              obtain rfl : gc = g3 := by simpa using e3
              have ccj := hcc _ _ hcj
              have hj9 : j < 9223372036854775806 := by omega
              clear hcc hcj e3 hx9 e9 hxt hkd
              have hwr : IntKind.i64.wrap (j : Int) = (j : Int) := IntWalk.i64_in _ (by omega)
              have hj1 : (0 : Int) ≤ (j : Int) + 1 := by omega
              have hj2 : (j : Int) + 1 < (m : Int) + 1 := by omega
              go_wp2
              have hd1 : Below wr.heap.size wr wr.drew := (Below.refl _ _).drew
              have cwd : wr.drew.cell? ⟨gw, j + 1, none⟩ = some (.string x) := cwj
              go_region_held3 (fun w' => w'.cell? ⟨gw, j + 1, none⟩ = some (.string x)) (first | (with_reducible exact cwj) | (with_reducible exact cwd) | (with_reducible exact cw5)) ((go_at_call 63; refine (word_impl kd hkn _ HKj.out x B g st cv ps u _ (hHP.out.on hd1) hxs9 (HEr.out.on (hd1.mono hBr))).mono ?_; rintro e w5 ⟨a, b, rfl, Hw, hb5⟩; (have cw5 : w5.cell? ⟨gw, j + 1, none⟩ = some (.string x) := (hb5.cell (p := ⟨gw, j + 1, none⟩) hgw9).trans cwd)))
              go_wp2
              have hb6 : Below wr.heap.size wr w5 := hd1.trans hb5
              have ccj5 : w5.cell? ⟨gc, j + 1, none⟩ = some (.int .i64 cj) := (hb6.cell (p := ⟨gc, j + 1, none⟩) hg3).trans ccj
              have HV5 := Lib.hid (HV.out.on hb6)
              have Hb5 := Lib.hid (hb.trans (hb6.mono hb.size))
              have hs5 := Hb5.out.size
              clear hb5 hd1
              have HP5 := Lib.hid (hHP.out.on hb6)
              have HB5 := Lib.hid (HBr.out.trans (hb6.mono hBr))
              have hB5 : B ≤ w5.heap.size := Nat.le_trans hBr hb6.size
              have hq1 : ∀ q r : Nat, Below w5.heap.size w5 ((w5.drewN q).drewN r) := fun q r => below_drewN (below_drewN (Below.refl _ _) q) r
              have hq0 : ∀ q : Nat, Below w5.heap.size w5 (w5.drewN q) := fun q => below_drewN (Below.refl _ _) q
              have HV6 : ∀ q : Nat, IL (w5.drewN q) w2.heap.size _ _ := fun q => HV5.out.on (hq0 q)
              have hs6 : ∀ q : Nat, w2.heap.size ≤ (w5.drewN q).heap.size := fun q => hs5
              have Hb6 : ∀ q : Nat, Below w2.heap.size w2 (w5.drewN q) := fun q => Hb5.out.trans ((hq0 q).mono hs5)
              have hvl : ((valsV st.done k.ks ws.tail).take j).length ≤ 1000000 := by rw [List.length_take]; omega
              have Hww5 := Hw
              by_cases hb0 : b = 0
              · subst hb0
                have HVn : Hid ((valsV st.done k.ks ws.tail).take (j + 1) = (valsV st.done k.ks ws.tail).take j ++ [a]) := Lib.hid (by rw [Hval.out, Hww5.out])
                have Hzn : Hid (∀ i, i < j + 1 → codeAt st.done k.ks ws.tail i = 0) := Lib.hid (fun i hi => by
                  rcases Nat.lt_or_ge i j with h | h
                  · exact Hz.out i h
                  · obtain rfl : i = j := by omega
                    rw [Hcode.out, Hww5.out])
                clear hb6 hq1
                go_quiet (fail)
                go_wp2_with (at_builtin; refine wpList_append_I rfl (.tmp 117) (.tmp 119) rfl w2.heap.size _ ((valsV st.done k.ks ws.tail).take j) rfl (HV6 _) a rfl hvl (hs6 _) ?_; intro v7 w7 h71 h72 h73)
                go_roundw
                case rel => exact ⟨j + 1, hlt, by go_num, by rw [HVn.out]; exact h71, Hzn, (Hb6 _).trans h73⟩
                case measure => simp [intOf] <;> omega
              · have hb1 : (b == 0) = false := beq_eq_false_iff_ne.2 hb0
                have Hv := Lib.hid (line_bad (st := st) E.out Hne.out Hh1.out Hk.out (by rw [Hn.out, Hm.out]) Hop.out (by rw [Hm.out]; exact hlt) Hz.out (by rw [Hcode.out, Hww5.out]; exact hb0))
                rw [Hcode.out, Hww5.out, Hcj.out] at Hv
                clear hb6
                go_quiet (fail)
                go_wp2
                go_quiet (fail)
                go_wp2
                go_ret2
                exact ⟨_, _, _, _, _, _, rfl, Hv, HP5.out.on (hq1 _ _), HB5.out.trans ((hq1 _ _).mono hB5)⟩
            · obtain rfl : m = j := by omega
              have HVm : Hid ((valsV st.done k.ks ws.tail).take m = valsV st.done k.ks ws.tail) := Lib.hid (List.take_of_length_le (by rw [vals_len _ _ _ (by rw [List.length_tail, Hn.out, Hm.out]; rfl), Hm.out]; exact Nat.le_refl _))
              have HV7 := HV.out
              rw [HVm.out] at HV7
              obtain ⟨A3, c3, e7, -, -⟩ := HV7.form
              subst e7
              have HV8 := Lib.hid (HV7.less (Nat.zero_le _))
              clear HV7
              have cc9 : wr.cell? ⟨gc, 0, none⟩ = some (.int .i64 c0) := HIr.out.cellAt Hcs0.out
              have cc8 : wr.drew.cell? ⟨gc, 0, none⟩ = some (.int .i64 c0) := cc9
              have HId8 := Lib.hid HIr.out.drew
              have HT : Hid (Calls Tryz.prog 64 #[.pointer (some ⟨g, 0, none⟩), .slice (some ⟨gw, 0, none⟩) (m + 1) c, .slice A3 (valsV st.done k.ks ws.tail).length c3] wr.drew (TakeAns 83 pvI st k ws (valsV st.done k.ks ws.tail) B g wr.drew)) := Lib.hid
                (hT k _ _ _ _ _ _ ws (valsV st.done k.ks ws.tail) B g st cv ps u _ (hHP.out.on (Below.refl _ _).drew) HO.out (HSr.out.drew.less (Nat.zero_le _)) Hn.out.symm (by rw [Hx0.out, kwOf_some Hkk.out]) (by rw [Hn.out, Hm.out]) (kw_op Hop.out) (fun x hx => by have := Hsm.out x hx; unfold maxLen; omega) HV8.out.drew (vals_len _ _ _ (by rw [List.length_tail, Hn.out, Hm.out]; rfl)))
              have hdw := HBr.out.drew
              have Hdw := Lib.hid hdw
              clear hdw
              go_wp2
              go_region_held3 (fun w' => w'.cell? ⟨gc, 0, none⟩ = some (.int .i64 c0)) (first | (with_reducible exact cc9) | (with_reducible exact cc8) | (with_reducible exact cc10)) ((go_at_call 64; refine HT.out.mono ?_; rintro e w5 ⟨r, st', cv', ps', u', rfl, Ht, HPt, hbt, hki⟩; (have cc10 : w5.cell? ⟨gc, 0, none⟩ = some (.int .i64 c0) := (hki _ _ _ HId8.out).cellAt Hcs0.out)))
              all_goals
                go_wp2
                go_ret2
                have Hv := Lib.hid (line_take (st := st) E.out Hne.out Hh1.out Hk.out (by rw [Hn.out, Hm.out]) Hop.out (by rw [Hm.out]; exact Hz.out) Ht.out)
                rw [Hc0.out] at Hv
                exact ⟨_, _, _, _, _, _, rfl, Hv, HPt, Hdw.out.trans hbt⟩
    · obtain ⟨ck, hck⟩ : ∃ ck, cs[m + 1]? = some ck := ⟨_, List.getElem?_eq_getElem (by rw [Hc.out]; exact hgt)⟩
      have Hv := Lib.hid (line_long (st := st) E.out Hne.out Hh1.out Hk.out (by rw [Hn.out, Hm.out]; exact hgt))
      rw [Hm.out, at0_at hck] at Hv
      have hq : ∀ w : World, Calls Tryz.prog 61 #[.string x0] w fun e w' => e = .returned (.int .i64 ((m : Int) + 1)) ∧ w' = w := fun w => by have h := cntI_any x0 w; rwa [Hcnt.out] at h
      go_wp2
      go_quiet (first | (go_at_call 61; refine Calls.quiet_of_same (hq _)))
      obtain ⟨HPd, HBd, HEd, HSd, HId, hgw2, hgc2, cw2, cc2⟩ := key nq
      clear key cw0 cc0 HP1 HB1 HE1 HS HI Hcc hgw hgc hq
      have hBs : B ≤ (w1.drewN nq).heap.size := Nat.le_trans HPd.out.hg (Nat.le_of_lt HPd.out.bk.lt)
      generalize w1.drewN nq = w2 at *
      have Hd := Lib.hid (fun m => below_drewN (Below.refl w2.heap.size w2) m)
      obtain ⟨g3, e3, -, -, hcc⟩ := ints_at HId.out (by rw [Hc.out]; exact hp)
      obtain rfl : gc = g3 := by simpa using e3
      have cck := hcc _ _ hck
      clear hcc hck e3
      go_wp2
      go_quiet (fail)
      go_wp2
      go_ret2
      exact ⟨_, _, _, _, _, _, rfl, Hv, HPd.out.on (Hd.out _), HBd.out.trans ((Hd.out _).mono hBs)⟩

end Go.Proofs.YtcckamhokdodnaaGreatDoor

namespace Go.Proofs.YtcckamhokdodnaaGreatDoor
open Go.RowKit

end Go.Proofs.YtcckamhokdodnaaGreatDoor
