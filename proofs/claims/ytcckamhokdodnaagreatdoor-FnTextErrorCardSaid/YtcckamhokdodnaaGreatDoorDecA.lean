/- What strconv.ParseInt makes of a short number's own digits. Plain. The program's readDecimal. Conditions: the tables and the errors' variables are laid. The program's shortNumber. Conditions: the tables and the errors' variables are laid. -/
import Derived.Test.YtcckamhokdodnaaGreatDoorKwA
import Derived.Lib.ParseIntB
import Derived.Lib.ParseIntBTie
namespace Go.Proofs.YtcckamhokdodnaaGreatDoor

theorem pm_snoc (M : Nat) (c : UInt8) : ∀ (l : List UInt8) (acc : Nat), Lib.parseUintM M acc (l ++ [c]) = match Lib.parseUintM M acc l with
    | .ok a => Lib.parseUintM M a [c]
    | e => e
  | [], acc => rfl
  | x :: l, acc => by
    simp only [List.cons_append, Lib.parseUintM]
    split
    · split
      · rfl
      · split
        · rfl
        · exact pm_snoc M c l _
    · rfl
theorem pm_one (M a d : Nat) (hd : d < 10) (ha : a < 1844674407370955162) (hM : a * 10 + d ≤ M) : Lib.parseUintM M a [UInt8.ofNat (48 + d)] = .ok (a * 10 + d) := by
  have e : (UInt8.ofNat (48 + d)).toNat = 48 + d := by
    rw [UInt8.toNat_ofNat']
    omega
  simp only [Lib.parseUintM, e]
  rw [if_pos (by omega), if_neg (by omega), if_neg (by omega)]
  congr 1
  omega
theorem pm_digits (M : Nat) (hM : 1000000000 ≤ M) (u : Nat) (hu : u ≤ 1000000000) : Lib.parseUintM M 0 (Lib.decDigits u) = .ok u := by
  induction u using Nat.strongRecOn with
  | ind u ih =>
    unfold Lib.decDigits
    split
    · rename_i h
      have := pm_one M 0 u h (by decide) (by omega)
      rw [this]
      congr 1
      omega
    · rename_i h
      rw [pm_snoc, ih (u / 10) (by omega) (by omega)]
      have := pm_one M (u / 10) (u % 10) (by omega) (by omega) (by omega)
      simp only
      rw [this]
      congr 1
      omega

theorem dig_head (u : Nat) : ∃ c r, Lib.decDigits u = c :: r ∧ 48 ≤ c.toNat ∧ c.toNat ≤ 57 := by
  induction u using Nat.strongRecOn with
  | ind u ih =>
    unfold Lib.decDigits
    split
    · rename_i h
      refine ⟨_, [], rfl, ?_, ?_⟩ <;> (rw [UInt8.toNat_ofNat']; omega)
    · obtain ⟨c, r, e, h1, h2⟩ := ih (u / 10) (by omega)
      exact ⟨c, r ++ [UInt8.ofNat (48 + u % 10)], by rw [e]; rfl, h1, h2⟩
theorem pu_digits (u : Nat) (hu : u ≤ 1000000000) : Lib.parseUintB 64 (Lib.decDigits u) = .ok u := by
  obtain ⟨c, r, e, -, -⟩ := dig_head u
  unfold Lib.parseUintB
  rw [if_neg (by rw [e]; simp)]
  exact pm_digits _ (by decide) u hu
theorem pi_itoa (n : Int) (h1 : -1000000000 ≤ n) (h2 : n ≤ 1000000000) : Lib.parseIntB 64 (Lib.itoa n) = .ok n := by
  unfold Lib.itoa
  split
  · rename_i h
    have e := pu_digits n.natAbs (by omega)
    unfold Lib.parseIntB
    have e45 : (45 : UInt8).toNat = 45 := rfl
    simp only [e45, or_true, if_true, e]
    rw [if_neg (by simp), if_neg (by simp; omega)]
    congr 1
    omega
  · rename_i h
    have e := pu_digits n.toNat (by omega)
    obtain ⟨c, r, ec, c1, c2⟩ := dig_head n.toNat
    rw [ec] at e ⊢
    unfold Lib.parseIntB
    have n1 : ¬ (c.toNat = 43 ∨ c.toNat = 45) := by omega
    have n2 : ¬ c.toNat = 45 := by omega
    simp only [if_neg n1, e, if_neg n2]
    rw [if_neg (by simp; omega), if_neg (by simp [n2])]
    congr 1
    omega

end Go.Proofs.YtcckamhokdodnaaGreatDoor

namespace Go.Proofs.YtcckamhokdodnaaGreatDoor
open Go.RowKit
open Go.Proofs

structure ErrV (w : World) : Prop where
  syn : ∃ te pe, w.cell? ⟨6, 0, none⟩ = some (.iface te pe)
  ran : ∃ te pe, w.cell? ⟨7, 0, none⟩ = some (.iface te pe)
/-- What readDecimal answers: n and whether s is written so. -/
def DecAns (s : ByteArray) (n : Int) (ok : Bool) : Prop := (ok = true → s = ⟨(Lib.itoa n).toArray⟩) ∧ (ok = false → ∀ m : Int, -1000000000 ≤ m → m ≤ 1000000000 → s ≠ ⟨(Lib.itoa m).toArray⟩)
theorem dec_other {s : ByteArray} (h : ∀ v, Lib.parseIntB 64 s.data.toList ≠ .ok v) (m : Int) (h1 : -1000000000 ≤ m) (h2 : m ≤ 1000000000) : s ≠ ⟨(Lib.itoa m).toArray⟩ := by
  rintro rfl
  exact h m (pi_itoa m h1 h2)

theorem dd_len : ∀ (k u : Nat), u < 10 ^ (k + 1) → (Lib.decDigits u).length ≤ k + 1
  | 0, u, h => by
    unfold Lib.decDigits
    rw [dif_pos (by simpa using h)]
    simp
  | k + 1, u, h => by
    unfold Lib.decDigits
    split
    · simp
    · have := dd_len k (u / 10) (by rw [Nat.pow_succ] at h; omega)
      rw [List.length_append, List.length_singleton]
      omega
theorem it_len (m : Int) (h1 : -1000000000 ≤ m) (h2 : m ≤ 1000000000) : (Lib.itoa m).length ≤ 11 := by
  unfold Lib.itoa
  split
  · have := dd_len 9 m.natAbs (by omega)
    rw [List.length_cons]
    omega
  · have := dd_len 9 m.toNat (by omega)
    omega

set_option maxHeartbeats 1600000 in
theorem readDec (s : ByteArray) (w : World) (hT : Tab w) (hE : ErrV w) :
    Calls Tryz.prog 115 #[.string s] w fun e w' => ∃ n ok, e = .returned (.tuple #[.int .i64 n, .bool ok]) ∧ -9223372036854775808 ≤ n ∧ n ≤ 9223372036854775807 ∧ Hid (DecAns s n ok) ∧ Below w.heap.size w w' := by
  by_cases hl : 19 < s.size
  · have hl2 : (19 : Int) < (s.size : Int) := by omega
    go_enter Tryz.func115, Tryz.ntmps115
    go_wp2
    go_ret2
    refine ⟨0, false, rfl, by decide, by decide, Lib.hid ⟨fun h => (by cases h), fun _ m h1 h2 e => ?_⟩, Below.refl _ _⟩
    have h3 := it_len m h1 h2
    rw [e] at hl
    rw [bytes_eq rfl] at hl
    omega
  · cases hp : Lib.parseIntB 64 s.data.toList with
    | ok v =>
      have hv := Lib.parseIntB_bounds hp
      have hv1 : -9223372036854775808 ≤ v ∧ v ≤ 9223372036854775807 := by have := hv.1; have := hv.2; omega
      obtain ⟨z, Hz⟩ : ∃ z : ByteArray, Hid (z = ⟨(Lib.itoa v).toArray⟩) := ⟨_, Lib.hid rfl⟩
      cases he : (z.toList == s.toList) with
      | true =>
        have e1 : z = s := toList_inj.1 (by simpa using he)
        go_enter Tryz.func115, Tryz.ntmps115
        go_wp2_with (first
          | (go_at_call 121; refine (Tryz.strconv_ParseInt_10_at64_ok s (by omega) v hp _).mono ?_; rintro e w1 ⟨rfl, hw⟩; have hb1 : Below w.heap.size w w1 := (by rcases hw with rfl | ⟨t, rfl⟩; exact Below.refl _ _; exact Lib.bytesWorld_below _ _ _))
          | (go_at_call 89; refine (decimal_any v _ hv1 (hT.on hb1)).mono ?_; rintro e w2 ⟨rfl, hb2⟩; rw [← Hz.out]))
        go_ret2
        exact ⟨v, true, rfl, hv1.1, hv1.2, Lib.hid ⟨fun _ => e1.symm.trans Hz.out, fun h => (by cases h)⟩, hb1.trans (hb2.mono hb1.size)⟩
      | false =>
        have e1 : z ≠ s := fun h => by rw [h] at he; simp at he
        have Hn : Hid (∀ m : Int, -1000000000 ≤ m → m ≤ 1000000000 → s ≠ ⟨(Lib.itoa m).toArray⟩) := Lib.hid (fun m h1 h2 e => by
          have h := pi_itoa m h1 h2
          have hs : s.data.toList = Lib.itoa m := by rw [e]
          rw [hs, h] at hp
          injection hp with hp
          exact e1 (by rw [Hz.out, ← hp, e]))
        go_enter Tryz.func115, Tryz.ntmps115
        go_wp2_with (first
          | (go_at_call 121; refine (Tryz.strconv_ParseInt_10_at64_ok s (by omega) v hp _).mono ?_; rintro e w1 ⟨rfl, hw⟩; have hb1 : Below w.heap.size w w1 := (by rcases hw with rfl | ⟨t, rfl⟩; exact Below.refl _ _; exact Lib.bytesWorld_below _ _ _))
          | (go_at_call 89; refine (decimal_any v _ hv1 (hT.on hb1)).mono ?_; rintro e w2 ⟨rfl, hb2⟩; rw [← Hz.out]))
        go_ret2
        exact ⟨0, false, rfl, by decide, by decide, Lib.hid ⟨fun h => (by cases h), fun _ => Hn.out⟩, hb1.trans (hb2.mono hb1.size)⟩
    | range =>
      obtain ⟨te, pe, hc⟩ := hE.ran
      have hn := Lib.hid (dec_other (s := s) (by rw [hp]; simp))
      go_enter Tryz.func115, Tryz.ntmps115
      go_wp2_with (go_at_call 121; refine (Tryz.strconv_ParseInt_10_at64_range s (by omega) hp _ _ hc (.inr ⟨te, pe, rfl⟩)).mono ?_; rintro e w1 ⟨N, rfl, -, -, hb1⟩)
      go_ret2
      exact ⟨0, false, rfl, by decide, by decide, Lib.hid ⟨fun h => (by cases h), fun _ => hn.out⟩, hb1⟩
    | _ =>
      obtain ⟨te, pe, hc⟩ := hE.syn
      have hn := Lib.hid (dec_other (s := s) (by rw [hp]; simp))
      go_enter Tryz.func115, Tryz.ntmps115
      go_wp2_with (go_at_call 121; refine (Tryz.strconv_ParseInt_10_at64_syntax s (by omega) hp _ _ hc (.inr ⟨te, pe, rfl⟩)).mono ?_; rintro e w1 ⟨N, rfl, -, -, hb1⟩)
      go_ret2
      exact ⟨0, false, rfl, by decide, by decide, Lib.hid ⟨fun h => (by cases h), fun _ => hn.out⟩, hb1⟩

end Go.Proofs.YtcckamhokdodnaaGreatDoor

namespace Go.Proofs.YtcckamhokdodnaaGreatDoor
open Go.RowKit
open Go.Proofs

/-- The digits of a number, read. -/
def valD (l : List UInt8) : Nat := l.foldl (fun a c => a * 10 + (c.toNat - 48)) 0
theorem valD_dec (u : Nat) : valD (Lib.decDigits u) = u := by
  induction u using Nat.strongRecOn with
  | ind u ih =>
    unfold Lib.decDigits
    split
    · rename_i h
      have e : (UInt8.ofNat (48 + u)).toNat = 48 + u := by rw [UInt8.toNat_ofNat']; omega
      simp only [valD, List.foldl_cons, List.foldl_nil, e]
      omega
    · have e : (UInt8.ofNat (48 + u % 10)).toNat = 48 + u % 10 := by rw [UInt8.toNat_ofNat']; omega
      have h := ih (u / 10) (by omega)
      unfold valD at h ⊢
      rw [List.foldl_append, h]
      simp only [List.foldl_cons, List.foldl_nil, e]
      omega
theorem itoa_one {n m : Int} (h : Lib.itoa n = Lib.itoa m) : n = m := by
  obtain ⟨c, r, ec, c1, c2⟩ := dig_head n.toNat
  obtain ⟨d, q, ed, d1, d2⟩ := dig_head m.toNat
  unfold Lib.itoa at h
  have e45 : (45 : UInt8).toNat = 45 := rfl
  split at h <;> split at h
  · have h2 := congrArg valD (List.cons.inj h).2
    rw [valD_dec, valD_dec] at h2
    omega
  · rw [ed] at h
    have := (List.cons.inj h).1
    rw [← this] at d1
    omega
  · rw [ec] at h
    have := (List.cons.inj h).1
    rw [this] at c1
    omega
  · have h2 := congrArg valD h
    rw [valD_dec, valD_dec] at h2
    omega

def NumAns (s : ByteArray) (n : Int) (ok : Bool) : Prop := (ok = true → (-999999999 ≤ n ∧ n ≤ 999999999) ∧ s = ⟨(Lib.itoa n).toArray⟩) ∧ (ok = false → ∀ m : Int, -999999999 ≤ m → m ≤ 999999999 → s ≠ ⟨(Lib.itoa m).toArray⟩)
set_option maxHeartbeats 1600000 in
theorem short_any (s : ByteArray) (w : World) (hT : Tab w) (hE : ErrV w) :
    Calls Tryz.prog 99 #[.string s] w fun e w' => ∃ n ok, e = .returned (.tuple #[.int .i64 n, .bool ok]) ∧ Hid (NumAns s n ok) ∧ Below w.heap.size w w' := by
  go_enter Tryz.func99, Tryz.ntmps99
  go_wp2_with fail
  refine (readDec s _ hT hE).mono ?_
  rintro e w1 ⟨n, ok, rfl, -, -, Ha, hb1⟩
  cases ok with
  | false =>
    go_wp2
    go_ret2
    exact ⟨n, false, rfl, Lib.hid ⟨fun h => (by cases h), fun _ m h1 h2 => Ha.out.2 rfl m (by omega) (by omega)⟩, hb1⟩
  | true =>
    cases hin : inB (-999999999) n 999999999 with
    | true =>
      have hi := (inB_iff _ _ _).1 hin
      go_wp2_with (go_at_call 29; refine (within_any _ _ _ _).mono ?_; rintro e w2 ⟨rfl, rfl⟩; rw [hin])
      go_ret2
      exact ⟨n, true, rfl, Lib.hid ⟨fun _ => ⟨by omega, Ha.out.1 rfl⟩, fun h => (by cases h)⟩, hb1⟩
    | false =>
      have Hn : Hid (∀ m : Int, -999999999 ≤ m → m ≤ 999999999 → s ≠ ⟨(Lib.itoa m).toArray⟩) := Lib.hid (fun m h1 h2 e => by
        have h := (Ha.out.1 rfl).symm.trans e
        have h3 : Lib.itoa n = Lib.itoa m := congrArg (fun b : ByteArray => b.data.toList) h
        have h4 := itoa_one h3
        rw [h4, (inB_iff _ _ _).2 ⟨h1, h2⟩] at hin
        cases hin)
      go_wp2_with (go_at_call 29; refine (within_any _ _ _ _).mono ?_; rintro e w2 ⟨rfl, rfl⟩; rw [hin])
      go_ret2
      exact ⟨n, false, rfl, Lib.hid ⟨fun h => (by cases h), fun _ => Hn.out⟩, hb1⟩

end Go.Proofs.YtcckamhokdodnaaGreatDoor
