/- Contracts: what impl.FormatLibrary writes into its strings.Builder: a line at a time. Conditions: the builder is the call's own; the text is short. -/
import Derived.Test.YtcckamhokdodnaaGreatDoorFmtS
import Derived.Test.YtcckamhokdodnaaGreatDoorShFmt
import Derived.Shelf.Strings.BuilderK
namespace Go.Proofs.YtcckamhokdodnaaGreatDoor
open Go.RowKit
open Go.Proofs

def WB (b : Nat) (l : List UInt8) (w : World) : Prop := Lib.IsBuilderF 53 5 b b (Lib.byteCells l) w
theorem WB.below {b : Nat} {l : List UInt8} {w w' : World} (h : WB b l w) (hb : Below w.heap.size w w') : WB b l w' := by
  have go : ∀ p, Lib.BuilderAtF 53 5 b b p (Lib.byteCells l) w → Lib.BuilderAtF 53 5 b b p (Lib.byteCells l) w' := by
    intro p hp
    have hlt := hp.lt
    obtain ⟨hB, v, hv, hown, hne⟩ := hp
    exact ⟨hB, v, (hb.block b hlt).trans hv, hown.kept (row := none) ⟨hb.os, hb.tape, hb.output, hb.size, fun k hk _ => hb.block k hk⟩ (Classical.em _), hne⟩
  exact h.elim (fun x => .inl (go _ x)) (fun x => .inr (go _ x))
theorem WB.drew {b : Nat} {l : List UInt8} {w : World} (h : WB b l w) : WB b l w.drew := h
theorem WB.lt {b : Nat} {l : List UInt8} {w : World} (h : WB b l w) : b < w.heap.size := h.elim (fun x => x.lt) (fun x => x.lt)
theorem WB.new (w : World) : WB w.heap.size [] (w.alloc (.cells #[.pointer none, .slice none 0 0] 53)) :=
  .inl ⟨Nat.le_refl _, .slice none 0 0, heap_alloc_new w _, ⟨by simp [Lib.byteCells], .inl ⟨rfl, rfl⟩⟩, by simp [Value.ownBlock]⟩
theorem Bk.aside {b g : Nat} {t : TypeId} {cs : Array Value} {w w' : World} (h : Bk w g t cs) (ho : Lib.OthersKept 5 (some b) w w') (hg : g ≠ b) (ht : t ≠ 5) : Bk w' g t cs :=
  ho g _ h (by simpa using hg) (fun c fz e => ht (by injection e))

theorem wrStr (b : Nat) (bs : List Value) (s : ByteArray) (w : World) (h : Lib.IsBuilderF 53 5 b b bs w) (hlen : bs.length + s.size ≤ 140737488355328) (hBw : b ≤ w.heap.size) :
    Calls Tryz.prog 23 #[.pointer (some ⟨b, 0, none⟩), .string s] w fun e w' => e = .returned (.tuple #[.int .i64 s.size, .nilIface]) ∧ (Lib.BuilderAtF 53 5 b b (.pointer (some ⟨b, 0, none⟩)) (bs ++ Lib.strCells s) w' ∧ Below b w w' ∧ Lib.OthersKept 5 (some b) w w') :=
  Any.Builder_WriteString_k (ρ := Tryz.lays156_ren) { Tryz.lays156 with } Tryz.Builder_Extra_156 b b bs s w h hlen hBw
theorem strOf (b : Nat) (l : List UInt8) (w : World) (h : WB b l w) :
    Calls Tryz.prog 27 #[.pointer (some ⟨b, 0, none⟩)] w fun e w' => e = .returned (.string ⟨l.toArray⟩) ∧ (WB b l w' ∧ Below b w w' ∧ Lib.OthersKept 5 (some b) w w') :=
  Any.Builder_String_any_k (ρ := Tryz.lays156_ren) { Tryz.lays156 with } Tryz.Builder_Extra_156 b b l w h (Nat.le_of_lt h.lt)

set_option maxHeartbeats 800000 in
set_option maxRecDepth 100000 in
/-- impl.FormatLibrary's function 'line'. -/
theorem line_any (b : Nat) (l : List UInt8) (s : ByteArray) (w : World) (h : WB b l w) (hl : l.length ≤ 1000000) (hs : s.size ≤ 1000) :
    Calls Tryz.prog 22 #[.string s, .pointer (some ⟨b, 0, none⟩)] w fun e w' => e = .returned (.tuple #[]) ∧ (WB b (l ++ (s.data.toList ++ [10])) w' ∧ Below b w w' ∧ Lib.OthersKept 5 (some b) w w') := by
  have a0 : ¬ (9223372036854775807 < s.size + 1) := (by omega)
  have hle := Nat.le_of_lt h.lt
  have HW := Lib.hid h
  clear h
  go_enter Tryz.func22, Tryz.ntmps22
  go_wp2_with (go_at_call 23; refine (wrStr b (Lib.byteCells l) _ _ HW.out (by rw [Lib.byteCells_length, ByteArray.size_append, one_size]; omega) hle).mono ?_; rintro e w2 ⟨rfl, h2, hb2, ho2⟩)
  go_end0
  refine ⟨rfl, .inr ?_, hb2, ho2⟩
  rw [Lib.byteCells_append]
  have e1 : Lib.strCells (s ++ ⟨#[10]⟩) = Lib.byteCells (s.data.toList ++ [10]) := by rw [Lib.strCells_eq]; simp [ByteArray.data_append]
  rw [e1] at h2
  exact h2

end Go.Proofs.YtcckamhokdodnaaGreatDoor
