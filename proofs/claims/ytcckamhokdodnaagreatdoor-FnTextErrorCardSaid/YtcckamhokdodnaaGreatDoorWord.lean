/- What a word stands for: textParser.word of the program, l15Word of the reference. Conditions: the tables and the errors' variables are laid; the parser's state lies in memory. -/
import Derived.Test.YtcckamhokdodnaaGreatDoorValN
namespace Go.Proofs.YtcckamhokdodnaaGreatDoor
open Go.RowKit

structure EnvP (B : Nat) (w : World) : Prop where
  env : Env B w
  err : ErrV w
  far : 6 < B ∧ 7 < B
theorem EnvP.on {B : Nat} {w w' : World} (h : EnvP B w) (hb : Below B w w') : EnvP B w' := by
  obtain ⟨h1, ⟨⟨a, b, hs⟩, ⟨c, d, hr⟩⟩, h3, h4⟩ := h
  exact ⟨h1.on hb, ⟨⟨a, b, (hb.cell (p := ⟨6, 0, none⟩) h3).trans hs⟩, ⟨c, d, (hb.cell (p := ⟨7, 0, none⟩) h4).trans hr⟩⟩, h3, h4⟩

def IsWord (cs : List CellD) (k : Kd) (s : ByteArray) (w : World) (e : Ending) (w' : World) : Prop := ∃ a b, e = .returned (.tuple #[.int .i64 a, .int .i64 b]) ∧ Hid (wordV cs k s = (a, b)) ∧ Below w.heap.size w w'
theorem word_idx {cs : List CellD} {s : ByteArray} {n : Int} (h : 0 ≤ n) : (Lib.idxOfS layN s = n → wordV cs .lay s = (n, 0)) ∧ (Lib.idxOfS oriN s = n → wordV cs .ori s = (n, 0)) ∧ (idxC cs s = n → wordV cs .cel s = (n, 0)) :=
  ⟨fun e => by simp only [wordV, e, if_pos h], fun e => by simp only [wordV, e, if_pos h], fun e => by simp only [wordV, e, if_pos h]⟩
theorem word_not {cs : List CellD} {s : ByteArray} {n : Int} (h : ¬ 0 ≤ n) : (Lib.idxOfS layN s = n → wordV cs .lay s = (0, 5)) ∧ (Lib.idxOfS oriN s = n → wordV cs .ori s = (0, 5)) ∧ (idxC cs s = n → wordV cs .cel s = (0, 5)) :=
  ⟨fun e => by simp only [wordV, e, if_neg h], fun e => by simp only [wordV, e, if_neg h], fun e => by simp only [wordV, e, if_neg h]⟩

set_option maxHeartbeats 1600000 in
set_option maxRecDepth 100000 in
theorem wordL_impl (s : ByteArray) (B g : Nat) (st : PS) (cv : Value) (ps : List (CellD × Sl3)) (u : Sl3) (w : World) (hP : PMi w B g st cv ps u) (hs : s.size ≤ 1000000) (hE : EnvP B w) :
    Calls Tryz.prog 63 #[.pointer (some ⟨g, 0, none⟩), .int .u8 108, .string s] w (IsWord st.done .lay s w) := by
  have HP := Lib.hid hP
  clear hP
  have hsm : s.size ≤ maxLen := by unfold maxLen; omega
  obtain ⟨n, Hn⟩ : ∃ n, Hid (Lib.idxOfS layN s = n) := ⟨_, Lib.hid rfl⟩
  by_cases h : 0 ≤ n
  · have Hv := Lib.hid ((word_idx (cs := st.done) (s := s) h).1 Hn.out)
    go_enter Tryz.func63, Tryz.ntmps63
    go_wp2_with (go_at_call 98; refine (layI_impl B s _ hE.env).mono ?_; rintro e w1 ⟨rfl, hw1⟩; subst hw1; rw [show Lib.idxOfS layN s = n from Hn.out])
    go_ret2
    exact ⟨_, _, rfl, Hv, Below.refl _ _⟩
  · have Hv := Lib.hid ((word_not (cs := st.done) (s := s) h).1 Hn.out)
    have h2 : n < 0 := by omega
    go_enter Tryz.func63, Tryz.ntmps63
    go_wp2_with (go_at_call 98; refine (layI_impl B s _ hE.env).mono ?_; rintro e w1 ⟨rfl, hw1⟩; subst hw1; rw [show Lib.idxOfS layN s = n from Hn.out])
    go_ret2
    exact ⟨_, _, rfl, Hv, Below.refl _ _⟩

set_option maxHeartbeats 1600000 in
set_option maxRecDepth 100000 in
theorem wordO_impl (s : ByteArray) (B g : Nat) (st : PS) (cv : Value) (ps : List (CellD × Sl3)) (u : Sl3) (w : World) (hP : PMi w B g st cv ps u) (hs : s.size ≤ 1000000) (hE : EnvP B w) :
    Calls Tryz.prog 63 #[.pointer (some ⟨g, 0, none⟩), .int .u8 111, .string s] w (IsWord st.done .ori s w) := by
  have HP := Lib.hid hP
  clear hP
  have hsm : s.size ≤ maxLen := by unfold maxLen; omega
  obtain ⟨n, Hn⟩ : ∃ n, Hid (Lib.idxOfS oriN s = n) := ⟨_, Lib.hid rfl⟩
  by_cases h : 0 ≤ n
  · have Hv := Lib.hid ((word_idx (cs := st.done) (s := s) h).2.1 Hn.out)
    go_enter Tryz.func63, Tryz.ntmps63
    go_wp2_with (go_at_call 13; refine (oriI_impl B s _ hE.env).mono ?_; rintro e w1 ⟨rfl, hw1⟩; subst hw1; rw [show Lib.idxOfS oriN s = n from Hn.out])
    go_ret2
    exact ⟨_, _, rfl, Hv, Below.refl _ _⟩
  · have Hv := Lib.hid ((word_not (cs := st.done) (s := s) h).2.1 Hn.out)
    have h2 : n < 0 := by omega
    go_enter Tryz.func63, Tryz.ntmps63
    go_wp2_with (go_at_call 13; refine (oriI_impl B s _ hE.env).mono ?_; rintro e w1 ⟨rfl, hw1⟩; subst hw1; rw [show Lib.idxOfS oriN s = n from Hn.out])
    go_ret2
    exact ⟨_, _, rfl, Hv, Below.refl _ _⟩

set_option maxHeartbeats 1600000 in
set_option maxRecDepth 100000 in
theorem wordC_impl (s : ByteArray) (B g : Nat) (st : PS) (cv : Value) (ps : List (CellD × Sl3)) (u : Sl3) (w : World) (hP : PMi w B g st cv ps u) (hs : s.size ≤ 1000000) (_hE : EnvP B w) :
    Calls Tryz.prog 63 #[.pointer (some ⟨g, 0, none⟩), .int .u8 99, .string s] w (IsWord st.done .cel s w) := by
  have HP := Lib.hid hP
  clear hP
  have hsm : s.size ≤ maxLen := by unfold maxLen; omega
  have c0 : w.cell? ⟨g, 0, none⟩ = some cv := HP.out.bk.cell 0
  obtain ⟨n, Hn⟩ : ∃ n, Hid (idxF (fun c => eqName c.name s) st.done = n) := ⟨_, Lib.hid rfl⟩
  by_cases h : 0 ≤ n
  · have Hv := Lib.hid ((word_idx (cs := st.done) (s := s) h).2.2 Hn.out)
    go_enter Tryz.func63, Tryz.ntmps63
    go_wp2_with (go_at_call 42; refine (named_any cv st.done s _ (HP.out.libV.less (Nat.zero_le _))).mono ?_; rintro e w1 ⟨rfl, hb1⟩; rw [show idxF (fun c => eqName c.name s) st.done = n from Hn.out])
    go_ret2
    exact ⟨_, _, rfl, Hv, hb1⟩
  · have Hv := Lib.hid ((word_not (cs := st.done) (s := s) h).2.2 Hn.out)
    have h2 : n < 0 := by omega
    go_enter Tryz.func63, Tryz.ntmps63
    go_wp2_with (go_at_call 42; refine (named_any cv st.done s _ (HP.out.libV.less (Nat.zero_le _))).mono ?_; rintro e w1 ⟨rfl, hb1⟩; rw [show idxF (fun c => eqName c.name s) st.done = n from Hn.out])
    go_ret2
    exact ⟨_, _, rfl, Hv, hb1⟩

set_option maxHeartbeats 1600000 in
set_option maxRecDepth 100000 in
theorem wordN_impl (s : ByteArray) (B g : Nat) (st : PS) (cv : Value) (ps : List (CellD × Sl3)) (u : Sl3) (w : World) (hP : PMi w B g st cv ps u) (hs : s.size ≤ 1000000) (hE : EnvP B w) :
    Calls Tryz.prog 63 #[.pointer (some ⟨g, 0, none⟩), .int .u8 110, .string s] w (IsWord st.done .num s w) := by
  have HP := Lib.hid hP
  clear hP
  have hsm : s.size ≤ maxLen := by unfold maxLen; omega
  go_enter Tryz.func63, Tryz.ntmps63
  go_wp2_with fail
  refine (short_any s _ hE.env.tab.here hE.err).mono ?_
  rintro e w1 ⟨n, ok, rfl, Ha, hb1⟩
  cases ok with
  | true =>
    have Hv : Hid (wordV st.done .num s = (n, 0)) := Lib.hid (by simp only [wordV, (ans_yes Ha.out).1])
    go_wp2
    go_ret2
    exact ⟨_, _, rfl, Hv, hb1⟩
  | false =>
    have Hv : Hid (wordV st.done .num s = (0, 4)) := Lib.hid (by simp only [wordV, ans_no Ha.out])
    go_wp2
    go_ret2
    exact ⟨_, _, rfl, Hv, hb1⟩

set_option maxHeartbeats 1600000 in
set_option maxRecDepth 100000 in
theorem wordA_impl (s : ByteArray) (B g : Nat) (st : PS) (cv : Value) (ps : List (CellD × Sl3)) (u : Sl3) (w : World) (hP : PMi w B g st cv ps u) (hs : s.size ≤ 1000000) (_hE : EnvP B w) :
    Calls Tryz.prog 63 #[.pointer (some ⟨g, 0, none⟩), .int .u8 78, .string s] w (IsWord st.done .nam s w) := by
  have HP := Lib.hid hP
  clear hP
  have hsm : s.size ≤ maxLen := by unfold maxLen; omega
  cases hn : nameB s with
  | true =>
    have Hv : Hid (wordV st.done .nam s = (0, 0)) := Lib.hid (by simp only [wordV, if_pos hn])
    go_enter Tryz.func63, Tryz.ntmps63
    go_wp2_with (go_at_call 74; refine (isName_impl s _ hsm).mono ?_; rintro e w1 ⟨rfl, rfl⟩; rw [hn])
    go_ret2
    exact ⟨_, _, rfl, Hv, Below.refl _ _⟩
  | false =>
    have Hv : Hid (wordV st.done .nam s = (0, 4)) := Lib.hid (by simp only [wordV, hn]; rfl)
    go_enter Tryz.func63, Tryz.ntmps63
    go_wp2_with (go_at_call 74; refine (isName_impl s _ hsm).mono ?_; rintro e w1 ⟨rfl, rfl⟩; rw [hn])
    go_ret2
    exact ⟨_, _, rfl, Hv, Below.refl _ _⟩

/-- The program's word of a kind. -/
theorem word_impl (k : Kd) (hk : k ≠ .new) (b : Int) (hb : b = (k.lo.toNat : Int)) (s : ByteArray) (B g : Nat) (st : PS) (cv : Value) (ps : List (CellD × Sl3)) (u : Sl3) (w : World) (hP : PMi w B g st cv ps u) (hs : s.size ≤ 1000000) (hE : EnvP B w) :
    Calls Tryz.prog 63 #[.pointer (some ⟨g, 0, none⟩), .int .u8 b, .string s] w (IsWord st.done k s w) := by
  subst hb
  cases k with
  | lay => exact wordL_impl s B g st cv ps u w hP hs hE
  | ori => exact wordO_impl s B g st cv ps u w hP hs hE
  | num => exact wordN_impl s B g st cv ps u w hP hs hE
  | nam => exact wordA_impl s B g st cv ps u w hP hs hE
  | new => exact absurd rfl hk
  | cel => exact wordC_impl s B g st cv ps u w hP hs hE
end Go.Proofs.YtcckamhokdodnaaGreatDoor
