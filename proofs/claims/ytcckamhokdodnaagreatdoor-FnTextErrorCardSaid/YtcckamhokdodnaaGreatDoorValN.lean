/- The reference's l01Value. No conditions but the word's length. -/
import Derived.Test.YtcckamhokdodnaaGreatDoorParM
namespace Go.Proofs.YtcckamhokdodnaaGreatDoor
open Go.RowKit

def frm (s : ByteArray) : Nat := if s.data.toList.head? = some 45 then 1 else 0
def digs (s : ByteArray) : List UInt8 := s.data.toList.drop (frm s)
def isDig (c : UInt8) : Bool := decide (48 ≤ c.toNat ∧ c.toNat ≤ 57)
theorem dd_dig (u : Nat) : ∀ c ∈ Lib.decDigits u, isDig c = true := by
  induction u using Nat.strongRecOn with
  | ind u ih =>
    unfold Lib.decDigits
    split
    · intro c hc
      simp only [List.mem_singleton] at hc
      subst hc
      have e : (UInt8.ofNat (48 + u)).toNat = 48 + u := by rw [UInt8.toNat_ofNat']; omega
      simp only [isDig, e, decide_eq_true_eq]
      omega
    · intro c hc
      rw [List.mem_append, List.mem_singleton] at hc
      rcases hc with hc | rfl
      · exact ih (u / 10) (by omega) c hc
      · have e : (UInt8.ofNat (48 + u % 10)).toNat = 48 + u % 10 := by rw [UInt8.toNat_ofNat']; omega
        simp only [isDig, e, decide_eq_true_eq]
        omega
theorem valD_snoc (l : List UInt8) (c : UInt8) : valD (l ++ [c]) = valD l * 10 + (c.toNat - 48) := by simp [valD]
theorem valD_lt : ∀ (n : Nat) (l : List UInt8), l.length = n → (∀ c ∈ l, isDig c = true) → valD l < 10 ^ n
  | 0, l, h, _ => by simp only [List.length_eq_zero_iff] at h; subst h; decide
  | n + 1, l, h, hd => by
    obtain ⟨r, c, rfl⟩ : ∃ r c, l = r ++ [c] := ⟨l.dropLast, l.getLast (fun e => by subst e; simp at h), (List.dropLast_concat_getLast _).symm⟩
    have := valD_lt n r (by simpa using h) (fun d hd2 => hd d (List.mem_append_left _ hd2))
    have hc := hd c (List.mem_append_right _ (List.mem_singleton.2 rfl))
    simp only [isDig, decide_eq_true_eq] at hc
    rw [valD_snoc, Nat.pow_succ]
    omega
theorem valD_small {l : List UInt8} (h : l.length ≤ 9) (hd : ∀ c ∈ l, isDig c = true) : valD l ≤ 999999999 := by
  have h1 := valD_lt l.length l rfl hd
  have h2 : 10 ^ l.length ≤ 10 ^ 9 := Nat.pow_le_pow_right (by decide) h
  omega
theorem digs_len (s : ByteArray) : (digs s).length = s.size - frm s := by simp [digs]
theorem digs_at {s : ByteArray} {i : Nat} (h : i < s.size) (hf : frm s ≤ i) : (digs s)[i - frm s]? = some s[i] := by
  unfold digs
  rw [List.getElem?_drop, show frm s + (i - frm s) = i by omega, List.getElem?_eq_getElem (by simpa using h)]
  rfl
theorem small_shape {s : ByteArray} {m : Int} (h1 : -999999999 ≤ m) (h2 : m ≤ 999999999) (e : s = ⟨(Lib.itoa m).toArray⟩) : digs s = Lib.decDigits m.natAbs ∧ (if frm s = 1 then m ≤ 0 else 0 ≤ m) ∧ 1 ≤ (digs s).length ∧ (digs s).length ≤ 9 := by
  have hl : (Lib.decDigits m.natAbs).length ≤ 9 := dd_len 8 _ (by omega)
  have h0 : 1 ≤ (Lib.decDigits m.natAbs).length := by
    obtain ⟨c, r, e, -, -⟩ := dig_head m.natAbs
    rw [e]; simp
  have hs : s.data.toList = Lib.itoa m := by rw [e]
  suffices hx : digs s = Lib.decDigits m.natAbs ∧ (if frm s = 1 then m ≤ 0 else 0 ≤ m) by
    refine ⟨hx.1, hx.2, ?_, ?_⟩ <;> rw [hx.1] <;> assumption
  unfold digs frm
  rw [hs]
  unfold Lib.itoa
  split
  · simp
    omega
  · obtain ⟨c, r, e, c1, c2⟩ := dig_head m.toNat
    have : c ≠ 45 := by rintro rfl; exact absurd c1 (by decide)
    have e2 : m.natAbs = m.toNat := by omega
    rw [e2, e]
    simp [this]
    omega
/-- What l01Value makes of the digits. -/
def numOf (s : ByteArray) : Int := if frm s = 1 then -(valD (digs s) : Int) else (valD (digs s) : Int)
theorem num_ans_no {s : ByteArray} {n : Int} (h : ∀ m : Int, -999999999 ≤ m → m ≤ 999999999 → s ≠ ⟨(Lib.itoa m).toArray⟩) : NumAns s n false := ⟨fun h => (by cases h), fun _ => h⟩
theorem frm_zero {s : ByteArray} (h : s.size = 0) : frm s = 0 := by
  have e : s.data.toList = [] := List.eq_nil_of_length_eq_zero (by simpa using h)
  unfold frm
  rw [e]
  rfl
theorem frm_one {s : ByteArray} (hp : 0 < s.size) (h : s[0] = 45) : frm s = 1 := by
  unfold frm
  rw [List.head?_eq_getElem?, List.getElem?_eq_getElem (by simpa using hp)]
  exact if_pos (congrArg some h)
theorem frm_not {s : ByteArray} (hp : 0 < s.size) (h : ¬ s[0] = 45) : frm s = 0 := by
  unfold frm
  rw [List.head?_eq_getElem?, List.getElem?_eq_getElem (by simpa using hp)]
  exact if_neg fun e => h (Option.some.inj e)
theorem no_len {s : ByteArray} {n : Int} (h : s.size - frm s < 1 ∨ 9 < s.size - frm s) : NumAns s n false := num_ans_no fun m h1 h2 e => by
  have := small_shape h1 h2 e
  rw [digs_len] at this
  omega
theorem no_dig {s : ByteArray} {n : Int} {i : Nat} (h : i < s.size) (hf : frm s ≤ i) (hd : isDig s[i] = false) : NumAns s n false := num_ans_no fun m h1 h2 e => by
  have h3 := small_shape h1 h2 e
  have h4 : s[i] ∈ digs s := List.mem_of_getElem? (digs_at h hf)
  rw [h3.1] at h4
  rw [dd_dig _ _ h4] at hd
  cases hd
theorem num_end {s : ByteArray} (hl : (digs s).length ≤ 9) (hd : ∀ c ∈ digs s, isDig c = true) (z : ByteArray) (hz : z = ⟨(Lib.itoa (numOf s)).toArray⟩) : NumAns s (numOf s) (decide (z = s)) := by
  have hv := valD_small hl hd
  have hb : -999999999 ≤ numOf s ∧ numOf s ≤ 999999999 := by unfold numOf; split <;> omega
  by_cases e : z = s
  · rw [decide_eq_true e]
    exact ⟨fun _ => ⟨hb, e.symm.trans hz⟩, fun h => (by cases h)⟩
  · rw [decide_eq_false e]
    refine num_ans_no fun m h1 h2 e2 => e ?_
    have h3 := small_shape h1 h2 e2
    have h4 : valD (digs s) = m.natAbs := by rw [h3.1, valD_dec]
    have h5 : numOf s = m := by
      unfold numOf
      rw [h4]
      have h6 := h3.2.1
      split at h6
      · rename_i hf
        rw [if_pos hf]
        omega
      · rename_i hf
        rw [if_neg hf]
        omega
    rw [hz, h5, e2]

end Go.Proofs.YtcckamhokdodnaaGreatDoor
