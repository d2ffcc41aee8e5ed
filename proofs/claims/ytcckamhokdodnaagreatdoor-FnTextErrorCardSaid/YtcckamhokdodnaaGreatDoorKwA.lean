/- The reference's l15Known: the number of a cell by its name. Condition: the cells lie in memory. The words that begin a line: wordCount, wordKinds of the program, l15Fields of the reference. -/
import Derived.Test.YtcckamhokdodnaaGreatDoorIdxA
namespace Go.Proofs.YtcckamhokdodnaaGreatDoor
open Go.RowKit

end Go.Proofs.YtcckamhokdodnaaGreatDoor

namespace Go.Proofs.YtcckamhokdodnaaGreatDoor
open Go.RowKit
theorem ne_list {a b : ByteArray} (h : ¬ a = b) : (a.toList == b.toList) = false := by
  rw [beq_eq_false_iff_ne]
  exact fun e => h (toList_inj.1 e)

def cntI (s : ByteArray) : Int := if s = ⟨#[99, 101, 108, 108]⟩ then 2 else if s = ⟨#[114, 101, 99, 116]⟩ then 6 else if s = ⟨#[108, 97, 98, 101, 108]⟩ then 5 else if s = ⟨#[112, 108, 97, 99, 101]⟩ then 5 else if s = ⟨#[97, 114, 114, 97, 121]⟩ then 9 else if s = ⟨#[101, 110, 100]⟩ then 1 else 0
set_option maxHeartbeats 1600000 in
theorem cntI_any (s : ByteArray) (w : World) : Calls Tryz.prog 61 #[.string s] w fun e w' => e = .returned (.int .i64 (cntI s)) ∧ w' = w := by
  by_cases h0 : s = ⟨#[99, 101, 108, 108]⟩
  · subst h0
    go_enter Tryz.func61, Tryz.ntmps61
    go_wp2
    go_ret
    exact ⟨rfl, rfl⟩
  have e0 : (s.toList == [99, 101, 108, 108]) = false := by have h := ne_list h0; simpa using h
  by_cases h1 : s = ⟨#[114, 101, 99, 116]⟩
  · subst h1
    go_enter Tryz.func61, Tryz.ntmps61
    go_wp2
    go_ret
    exact ⟨rfl, rfl⟩
  have e1 : (s.toList == [114, 101, 99, 116]) = false := by have h := ne_list h1; simpa using h
  by_cases h2 : s = ⟨#[108, 97, 98, 101, 108]⟩
  · subst h2
    go_enter Tryz.func61, Tryz.ntmps61
    go_wp2
    go_ret
    exact ⟨rfl, rfl⟩
  have e2 : (s.toList == [108, 97, 98, 101, 108]) = false := by have h := ne_list h2; simpa using h
  by_cases h3 : s = ⟨#[112, 108, 97, 99, 101]⟩
  · subst h3
    go_enter Tryz.func61, Tryz.ntmps61
    go_wp2
    go_ret
    exact ⟨rfl, rfl⟩
  have e3 : (s.toList == [112, 108, 97, 99, 101]) = false := by have h := ne_list h3; simpa using h
  by_cases h4 : s = ⟨#[97, 114, 114, 97, 121]⟩
  · subst h4
    go_enter Tryz.func61, Tryz.ntmps61
    go_wp2
    go_ret
    exact ⟨rfl, rfl⟩
  have e4 : (s.toList == [97, 114, 114, 97, 121]) = false := by have h := ne_list h4; simpa using h
  by_cases h5 : s = ⟨#[101, 110, 100]⟩
  · subst h5
    go_enter Tryz.func61, Tryz.ntmps61
    go_wp2
    go_ret
    exact ⟨rfl, rfl⟩
  have e5 : (s.toList == [101, 110, 100]) = false := by have h := ne_list h5; simpa using h
  have Hv : Hid (cntI s = 0) := Lib.hid (by unfold cntI; rw [if_neg h0, if_neg h1, if_neg h2, if_neg h3, if_neg h4, if_neg h5])
  go_enter Tryz.func61, Tryz.ntmps61
  go_wp2
  go_ret
  exact ⟨by rw [Hv.out]; rfl, rfl⟩

def kinI (s : ByteArray) : ByteArray := if s = ⟨#[99, 101, 108, 108]⟩ then ⟨#[78]⟩ else if s = ⟨#[114, 101, 99, 116]⟩ then ⟨#[108, 110, 110, 110, 110]⟩ else if s = ⟨#[108, 97, 98, 101, 108]⟩ then ⟨#[108, 110, 110, 78]⟩ else if s = ⟨#[112, 108, 97, 99, 101]⟩ then ⟨#[99, 111, 110, 110]⟩ else if s = ⟨#[97, 114, 114, 97, 121]⟩ then ⟨#[99, 111, 110, 110, 110, 110, 110, 110]⟩ else ⟨#[]⟩
set_option maxHeartbeats 1600000 in
theorem kinI_any (s : ByteArray) (w : World) : Calls Tryz.prog 62 #[.string s] w fun e w' => e = .returned (.string (kinI s)) ∧ w' = w := by
  by_cases h0 : s = ⟨#[99, 101, 108, 108]⟩
  · subst h0
    go_enter Tryz.func62, Tryz.ntmps62
    go_wp2
    go_ret
    exact ⟨rfl, rfl⟩
  have e0 : (s.toList == [99, 101, 108, 108]) = false := by have h := ne_list h0; simpa using h
  by_cases h1 : s = ⟨#[114, 101, 99, 116]⟩
  · subst h1
    go_enter Tryz.func62, Tryz.ntmps62
    go_wp2
    go_ret
    exact ⟨rfl, rfl⟩
  have e1 : (s.toList == [114, 101, 99, 116]) = false := by have h := ne_list h1; simpa using h
  by_cases h2 : s = ⟨#[108, 97, 98, 101, 108]⟩
  · subst h2
    go_enter Tryz.func62, Tryz.ntmps62
    go_wp2
    go_ret
    exact ⟨rfl, rfl⟩
  have e2 : (s.toList == [108, 97, 98, 101, 108]) = false := by have h := ne_list h2; simpa using h
  by_cases h3 : s = ⟨#[112, 108, 97, 99, 101]⟩
  · subst h3
    go_enter Tryz.func62, Tryz.ntmps62
    go_wp2
    go_ret
    exact ⟨rfl, rfl⟩
  have e3 : (s.toList == [112, 108, 97, 99, 101]) = false := by have h := ne_list h3; simpa using h
  by_cases h4 : s = ⟨#[97, 114, 114, 97, 121]⟩
  · subst h4
    go_enter Tryz.func62, Tryz.ntmps62
    go_wp2
    go_ret
    exact ⟨rfl, rfl⟩
  have e4 : (s.toList == [97, 114, 114, 97, 121]) = false := by have h := ne_list h4; simpa using h
  have Hv : Hid (kinI s = ⟨#[]⟩) := Lib.hid (by unfold kinI; rw [if_neg h0, if_neg h1, if_neg h2, if_neg h3, if_neg h4])
  go_enter Tryz.func62, Tryz.ntmps62
  go_wp2
  go_ret
  exact ⟨by rw [Hv.out]; rfl, rfl⟩

def fldS (s : ByteArray) : ByteArray := if s = ⟨#[99, 101, 108, 108]⟩ then ⟨#[66]⟩ else if s = ⟨#[114, 101, 99, 116]⟩ then ⟨#[76, 78, 78, 78, 78]⟩ else if s = ⟨#[108, 97, 98, 101, 108]⟩ then ⟨#[76, 78, 78, 65]⟩ else if s = ⟨#[112, 108, 97, 99, 101]⟩ then ⟨#[67, 79, 78, 78]⟩ else if s = ⟨#[97, 114, 114, 97, 121]⟩ then ⟨#[67, 79, 78, 78, 78, 78, 78, 78]⟩ else if s = ⟨#[101, 110, 100]⟩ then ⟨#[]⟩ else ⟨#[63]⟩
end Go.Proofs.YtcckamhokdodnaaGreatDoor
