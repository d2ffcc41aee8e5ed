/- The reference's l15Known: the number of a cell by its name. Condition: the cells lie in memory. The words that begin a line: wordCount, wordKinds of the program, l15Fields of the reference. -/
import Derived.Test.YtljfpeipcfankaaGreatDoorIdxA
namespace Go.Proofs.YtljfpeipcfankaaGreatDoor
open Go.RowKit

set_option maxHeartbeats 1600000 in
theorem known_any (sb : Nat) (v : Value) (cs : List CellD) (s : ByteArray) (w : World) (hc : w.cell? ⟨sb, 0, none⟩ = some v) (hv : LibV w 0 v cs) :
    Calls Tryz.prog 42 #[.pointer (some ⟨sb, 0, none⟩), .string s] w fun e w' => e = .returned (.int .i64 (idxF (fun c => eqName c.name s) cs)) ∧ w' = w := by
  obtain ⟨A, cp, rfl, hle, hm⟩ := hv.form
  unfold maxLen at hm
  have HV := Lib.hid hv
  clear hv
  go_enter Tryz.func42, Tryz.ntmps42
  go_wp2
  go_loopw [5] (fun iv wr => ∃ k : Nat, k ≤ cs.length ∧ iv = .int .i64 k ∧ Hid ((cs.take k).any (fun c => eqName c.name s) = false) ∧ wr = w) (fun iv _ => cs.length - (intOf iv).toNat)
  case atStart => exact ⟨0, Nat.zero_le _, rfl, Lib.hid rfl, rfl⟩
  case round =>
    obtain ⟨k, hk, rfl, HI, rfl⟩ := hrel
    by_cases hlt : k < cs.length
    · obtain ⟨g, x, u, rfl, hx, hg, f0, -⟩ := HV.out.elem hlt
      have Hx := Lib.hid hx
      clear hx
      have hk9 : k < 9223372036854775807 := by omega
      obtain ⟨z, hz⟩ : ∃ z, Hid (x.name = z) := ⟨_, Lib.hid rfl⟩
      rw [hz.out] at f0
      cases he : (z.toList == s.toList) with
      | true =>
        have e1 : z = s := toList_inj.1 (by simpa using he)
        have Hhit := Lib.hid (idxF_hit HI.out Hx.out (p := fun c => eqName c.name s) (by simp [eqName, hz.out, e1]))
        go_wp2
        go_ret
        exact ⟨by rw [Hhit.out]; rfl, rfl⟩
      | false =>
        have e1 : z ≠ s := fun h => by rw [h] at he; simp at he
        have HI2 := Lib.hid (any_step HI.out Hx.out (p := fun c => eqName c.name s) (by simp [eqName, hz.out, e1]))
        go_wp2
        exact ⟨⟨k + 1, by omega, by go_num, HI2, by first | rfl | trivial⟩, by simp [intOf] <;> omega⟩
    · obtain rfl : k = cs.length := by omega
      have HE := Lib.hid (idxF_none (p := fun c => eqName c.name s) (xs := cs) (by have := HI.out; rwa [List.take_length] at this))
      go_wp2
      go_ret
      exact ⟨by rw [HE.out]; rfl, rfl⟩

end Go.Proofs.YtljfpeipcfankaaGreatDoor

namespace Go.Proofs.YtljfpeipcfankaaGreatDoor
open Go.RowKit
theorem ne_list {a b : ByteArray} (h : ¬ a = b) : (a.toList == b.toList) = false := by
  rw [beq_eq_false_iff_ne]
  exact fun e => h (toList_inj.1 e)

def cntI (s : ByteArray) : Int := if s = ⟨#[99, 101, 108, 108]⟩ then 2 else if s = ⟨#[114, 101, 99, 116]⟩ then 6 else if s = ⟨#[108, 97, 98, 101, 108]⟩ then 5 else if s = ⟨#[112, 108, 97, 99, 101]⟩ then 5 else if s = ⟨#[97, 114, 114, 97, 121]⟩ then 9 else if s = ⟨#[101, 110, 100]⟩ then 1 else 0
set_option maxHeartbeats 1600000 in
theorem cntI_any (s : ByteArray) (w : World) : Calls Tryz.prog 27 #[.string s] w fun e w' => e = .returned (.int .i64 (cntI s)) ∧ w' = w := by
  by_cases h0 : s = ⟨#[99, 101, 108, 108]⟩
  · subst h0
    go_enter Tryz.func27, Tryz.ntmps27
    go_wp2
    go_ret
    exact ⟨rfl, rfl⟩
  have e0 : (s.toList == [99, 101, 108, 108]) = false := by have h := ne_list h0; simpa using h
  by_cases h1 : s = ⟨#[114, 101, 99, 116]⟩
  · subst h1
    go_enter Tryz.func27, Tryz.ntmps27
    go_wp2
    go_ret
    exact ⟨rfl, rfl⟩
  have e1 : (s.toList == [114, 101, 99, 116]) = false := by have h := ne_list h1; simpa using h
  by_cases h2 : s = ⟨#[108, 97, 98, 101, 108]⟩
  · subst h2
    go_enter Tryz.func27, Tryz.ntmps27
    go_wp2
    go_ret
    exact ⟨rfl, rfl⟩
  have e2 : (s.toList == [108, 97, 98, 101, 108]) = false := by have h := ne_list h2; simpa using h
  by_cases h3 : s = ⟨#[112, 108, 97, 99, 101]⟩
  · subst h3
    go_enter Tryz.func27, Tryz.ntmps27
    go_wp2
    go_ret
    exact ⟨rfl, rfl⟩
  have e3 : (s.toList == [112, 108, 97, 99, 101]) = false := by have h := ne_list h3; simpa using h
  by_cases h4 : s = ⟨#[97, 114, 114, 97, 121]⟩
  · subst h4
    go_enter Tryz.func27, Tryz.ntmps27
    go_wp2
    go_ret
    exact ⟨rfl, rfl⟩
  have e4 : (s.toList == [97, 114, 114, 97, 121]) = false := by have h := ne_list h4; simpa using h
  by_cases h5 : s = ⟨#[101, 110, 100]⟩
  · subst h5
    go_enter Tryz.func27, Tryz.ntmps27
    go_wp2
    go_ret
    exact ⟨rfl, rfl⟩
  have e5 : (s.toList == [101, 110, 100]) = false := by have h := ne_list h5; simpa using h
  have Hv : Hid (cntI s = 0) := Lib.hid (by unfold cntI; rw [if_neg h0, if_neg h1, if_neg h2, if_neg h3, if_neg h4, if_neg h5])
  go_enter Tryz.func27, Tryz.ntmps27
  go_wp2
  go_ret
  exact ⟨by rw [Hv.out]; rfl, rfl⟩

def kinI (s : ByteArray) : ByteArray := if s = ⟨#[99, 101, 108, 108]⟩ then ⟨#[78]⟩ else if s = ⟨#[114, 101, 99, 116]⟩ then ⟨#[108, 110, 110, 110, 110]⟩ else if s = ⟨#[108, 97, 98, 101, 108]⟩ then ⟨#[108, 110, 110, 78]⟩ else if s = ⟨#[112, 108, 97, 99, 101]⟩ then ⟨#[99, 111, 110, 110]⟩ else if s = ⟨#[97, 114, 114, 97, 121]⟩ then ⟨#[99, 111, 110, 110, 110, 110, 110, 110]⟩ else ⟨#[]⟩
set_option maxHeartbeats 1600000 in
theorem kinI_any (s : ByteArray) (w : World) : Calls Tryz.prog 28 #[.string s] w fun e w' => e = .returned (.string (kinI s)) ∧ w' = w := by
  by_cases h0 : s = ⟨#[99, 101, 108, 108]⟩
  · subst h0
    go_enter Tryz.func28, Tryz.ntmps28
    go_wp2
    go_ret
    exact ⟨rfl, rfl⟩
  have e0 : (s.toList == [99, 101, 108, 108]) = false := by have h := ne_list h0; simpa using h
  by_cases h1 : s = ⟨#[114, 101, 99, 116]⟩
  · subst h1
    go_enter Tryz.func28, Tryz.ntmps28
    go_wp2
    go_ret
    exact ⟨rfl, rfl⟩
  have e1 : (s.toList == [114, 101, 99, 116]) = false := by have h := ne_list h1; simpa using h
  by_cases h2 : s = ⟨#[108, 97, 98, 101, 108]⟩
  · subst h2
    go_enter Tryz.func28, Tryz.ntmps28
    go_wp2
    go_ret
    exact ⟨rfl, rfl⟩
  have e2 : (s.toList == [108, 97, 98, 101, 108]) = false := by have h := ne_list h2; simpa using h
  by_cases h3 : s = ⟨#[112, 108, 97, 99, 101]⟩
  · subst h3
    go_enter Tryz.func28, Tryz.ntmps28
    go_wp2
    go_ret
    exact ⟨rfl, rfl⟩
  have e3 : (s.toList == [112, 108, 97, 99, 101]) = false := by have h := ne_list h3; simpa using h
  by_cases h4 : s = ⟨#[97, 114, 114, 97, 121]⟩
  · subst h4
    go_enter Tryz.func28, Tryz.ntmps28
    go_wp2
    go_ret
    exact ⟨rfl, rfl⟩
  have e4 : (s.toList == [97, 114, 114, 97, 121]) = false := by have h := ne_list h4; simpa using h
  have Hv : Hid (kinI s = ⟨#[]⟩) := Lib.hid (by unfold kinI; rw [if_neg h0, if_neg h1, if_neg h2, if_neg h3, if_neg h4])
  go_enter Tryz.func28, Tryz.ntmps28
  go_wp2
  go_ret
  exact ⟨by rw [Hv.out]; rfl, rfl⟩

def fldS (s : ByteArray) : ByteArray := if s = ⟨#[99, 101, 108, 108]⟩ then ⟨#[66]⟩ else if s = ⟨#[114, 101, 99, 116]⟩ then ⟨#[76, 78, 78, 78, 78]⟩ else if s = ⟨#[108, 97, 98, 101, 108]⟩ then ⟨#[76, 78, 78, 65]⟩ else if s = ⟨#[112, 108, 97, 99, 101]⟩ then ⟨#[67, 79, 78, 78]⟩ else if s = ⟨#[97, 114, 114, 97, 121]⟩ then ⟨#[67, 79, 78, 78, 78, 78, 78, 78]⟩ else if s = ⟨#[101, 110, 100]⟩ then ⟨#[]⟩ else ⟨#[63]⟩
set_option maxHeartbeats 1600000 in
theorem fldS_any (s : ByteArray) (w : World) : Calls Tryz.prog 19 #[.string s] w fun e w' => e = .returned (.string (fldS s)) ∧ w' = w := by
  by_cases h0 : s = ⟨#[99, 101, 108, 108]⟩
  · subst h0
    go_enter Tryz.func19, Tryz.ntmps19
    go_wp2
    go_ret
    exact ⟨rfl, rfl⟩
  have e0 : (s.toList == [99, 101, 108, 108]) = false := by have h := ne_list h0; simpa using h
  by_cases h1 : s = ⟨#[114, 101, 99, 116]⟩
  · subst h1
    go_enter Tryz.func19, Tryz.ntmps19
    go_wp2
    go_ret
    exact ⟨rfl, rfl⟩
  have e1 : (s.toList == [114, 101, 99, 116]) = false := by have h := ne_list h1; simpa using h
  by_cases h2 : s = ⟨#[108, 97, 98, 101, 108]⟩
  · subst h2
    go_enter Tryz.func19, Tryz.ntmps19
    go_wp2
    go_ret
    exact ⟨rfl, rfl⟩
  have e2 : (s.toList == [108, 97, 98, 101, 108]) = false := by have h := ne_list h2; simpa using h
  by_cases h3 : s = ⟨#[112, 108, 97, 99, 101]⟩
  · subst h3
    go_enter Tryz.func19, Tryz.ntmps19
    go_wp2
    go_ret
    exact ⟨rfl, rfl⟩
  have e3 : (s.toList == [112, 108, 97, 99, 101]) = false := by have h := ne_list h3; simpa using h
  by_cases h4 : s = ⟨#[97, 114, 114, 97, 121]⟩
  · subst h4
    go_enter Tryz.func19, Tryz.ntmps19
    go_wp2
    go_ret
    exact ⟨rfl, rfl⟩
  have e4 : (s.toList == [97, 114, 114, 97, 121]) = false := by have h := ne_list h4; simpa using h
  by_cases h5 : s = ⟨#[101, 110, 100]⟩
  · subst h5
    go_enter Tryz.func19, Tryz.ntmps19
    go_wp2
    go_ret
    exact ⟨rfl, rfl⟩
  have e5 : (s.toList == [101, 110, 100]) = false := by have h := ne_list h5; simpa using h
  have Hv : Hid (fldS s = ⟨#[63]⟩) := Lib.hid (by unfold fldS; rw [if_neg h0, if_neg h1, if_neg h2, if_neg h3, if_neg h4, if_neg h5])
  go_enter Tryz.func19, Tryz.ntmps19
  go_wp2
  go_ret
  exact ⟨by rw [Hv.out]; rfl, rfl⟩


end Go.Proofs.YtljfpeipcfankaaGreatDoor
