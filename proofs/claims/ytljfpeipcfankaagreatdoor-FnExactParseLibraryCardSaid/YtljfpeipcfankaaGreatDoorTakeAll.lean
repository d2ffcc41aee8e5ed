/- Taking a line, of both sides, for every keyword. No conditions. -/
import Derived.Test.YtljfpeipcfankaaGreatDoorTakeRL
import Derived.Test.YtljfpeipcfankaaGreatDoorTakeP
import Derived.Test.YtljfpeipcfankaaGreatDoorTakeA
import Derived.Test.YtljfpeipcfankaaGreatDoorTakeSR
import Derived.Test.YtljfpeipcfankaaGreatDoorTakeSL
import Derived.Test.YtljfpeipcfankaaGreatDoorTakeSP
import Derived.Test.YtljfpeipcfankaaGreatDoorTakeSA
import Derived.Test.YtljfpeipcfankaaGreatDoorLineA
namespace Go.Proofs.YtljfpeipcfankaaGreatDoor
open Go.RowKit

theorem at_len {α : Type} {l : List α} {k : Nat} (h : k < l.length) : ∃ x, l[k]? = some x := ⟨_, List.getElem?_eq_getElem h⟩
theorem list4 {l : List Int} (h : l.length = 4) : ∃ a b c d, l = [a, b, c, d] := by
  match l, h with
  | [a, b, c, d], _ => exact ⟨a, b, c, d, rfl⟩
theorem list5 {l : List Int} (h : l.length = 5) : ∃ a b c d e, l = [a, b, c, d, e] := by
  match l, h with
  | [a, b, c, d, e], _ => exact ⟨a, b, c, d, e, rfl⟩
theorem list8 {l : List Int} (h : l.length = 8) : ∃ a b c d e f g i, l = [a, b, c, d, e, f, g, i] := by
  match l, h with
  | [a, b, c, d, e, f, g, i], _ => exact ⟨a, b, c, d, e, f, g, i, rfl⟩
theorem takesI : TakesI := by
  intro k A n c B2 m2 c2 ws v B g st cv ps u w hP hO hW hn h0 hl hop hsz hI hv
  cases k with
  | cell =>
    obtain ⟨nm, h1⟩ := at_len (l := ws) (k := 1) (by rw [hl]; decide)
    exact takeCell_impl A n c (.slice B2 m2 c2) ws v B g st cv ps u w hP hO hW hn nm h0 h1
  | fin => exact takeFin_impl A n c (.slice B2 m2 c2) ws v B g st cv ps u w hP hO hW hn h0 (by rw [hop]; rfl)
  | rect =>
    obtain ⟨a0, a1, a2, a3, a4, rfl⟩ := list5 hv
    exact take_rect_impl A n c B2 m2 c2 ws a0 a1 a2 a3 a4 B g st cv ps u w hP hO hW hn h0 (by rw [hop]; rfl) hI
  | label =>
    obtain ⟨a0, a1, a2, a3, rfl⟩ := list4 hv
    obtain ⟨nm, h4⟩ := at_len (l := ws) (k := 4) (by rw [hl]; decide)
    exact take_label_impl A n c B2 m2 c2 ws a0 a1 a2 a3 B g st cv ps u w hP hO hW hn h0 nm h4 (hsz nm (List.mem_of_getElem? h4)) (by rw [hop]; rfl) hI
  | place =>
    obtain ⟨a0, a1, a2, a3, rfl⟩ := list4 hv
    exact take_place_impl A n c B2 m2 c2 ws a0 a1 a2 a3 B g st cv ps u w hP hO hW hn h0 (by rw [hop]; rfl) hI
  | array =>
    obtain ⟨a0, a1, a2, a3, a4, a5, a6, a7, rfl⟩ := list8 hv
    exact take_array_impl A n c B2 m2 c2 ws a0 a1 a2 a3 a4 a5 a6 a7 B g st cv ps u w hP hO hW hn h0 (by rw [hop]; rfl) hI
theorem takesS : TakesS := by
  intro k A n c B2 m2 c2 ws v B g st cv ps u w hP hO hW hn h0 hl hop hsz hI hv
  cases k with
  | cell =>
    obtain ⟨nm, h1⟩ := at_len (l := ws) (k := 1) (by rw [hl]; decide)
    exact takeCell_spec A n c (.slice B2 m2 c2) ws v B g st cv ps u w hP hO hW hn nm h0 h1
  | fin => exact takeFin_spec A n c (.slice B2 m2 c2) ws v B g st cv ps u w hP hO hW hn h0 (by rw [hop]; rfl)
  | rect =>
    obtain ⟨a0, a1, a2, a3, a4, rfl⟩ := list5 hv
    exact take_rect_spec A n c B2 m2 c2 ws a0 a1 a2 a3 a4 B g st cv ps u w hP hO hW hn h0 (by rw [hop]; rfl) hI
  | label =>
    obtain ⟨a0, a1, a2, a3, rfl⟩ := list4 hv
    obtain ⟨nm, h4⟩ := at_len (l := ws) (k := 4) (by rw [hl]; decide)
    exact take_label_spec A n c B2 m2 c2 ws a0 a1 a2 a3 B g st cv ps u w hP hO hW hn h0 nm h4 (hsz nm (List.mem_of_getElem? h4)) (by rw [hop]; rfl) hI
  | place =>
    obtain ⟨a0, a1, a2, a3, rfl⟩ := list4 hv
    exact take_place_spec A n c B2 m2 c2 ws a0 a1 a2 a3 B g st cv ps u w hP hO hW hn h0 (by rw [hop]; rfl) hI
  | array =>
    obtain ⟨a0, a1, a2, a3, a4, a5, a6, a7, rfl⟩ := list8 hv
    exact take_array_spec A n c B2 m2 c2 ws a0 a1 a2 a3 a4 a5 a6 a7 B g st cv ps u w hP hO hW hn h0 (by rw [hop]; rfl) hI

end Go.Proofs.YtljfpeipcfankaaGreatDoor
