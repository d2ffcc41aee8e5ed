/- The state of a parser in memory: the cells that have ended, the one that has begun. No conditions. -/
import Derived.Test.YtcckamhokdodnaaGreatDoorParT
import Derived.Test.YtcckamhokdodnaaGreatDoorLibC
namespace Go.Proofs.YtcckamhokdodnaaGreatDoor
open Go.RowKit

def blkOf (u : Sl3) (b : Nat) : Prop := u.s.ownBlock = some b ∨ u.l.ownBlock = some b ∨ u.i.ownBlock = some b
def Apart3 (us : List Sl3) : Prop := us.Pairwise fun u v => ∀ b, blkOf u b → ¬ blkOf v b
theorem C3.blk {w : World} {B : Nat} {u : Sl3} {c : CellD} (h : C3 w B u c) {b : Nat} (hb : blkOf u b) : B ≤ b ∧ b < w.heap.size := by
  rcases hb with hb | hb | hb
  · exact World.ownsRow.lt h.s _ hb
  · exact World.ownsRow.lt h.l _ hb
  · exact World.ownsRow.lt h.i _ hb
theorem ne_row {v : Value} {row : Option Nat} (h : ∀ b, v.ownBlock = some b → row ≠ some b) : v.ownBlock = none ∨ v.ownBlock ≠ row := by
  cases e : v.ownBlock with
  | none => exact .inl rfl
  | some b => exact .inr fun h2 => h b e h2.symm
theorem C3.kept {w w' : World} {B : Nat} {u : Sl3} {c : CellD} {row : Option Nat} (h : C3 w B u c) (hg : w.grownBy w' row) (hne : ∀ b, blkOf u b → row ≠ some b) : C3 w' B u c :=
  ⟨World.ownsRow.kept h.s hg (ne_row fun b hb => hne b (.inl hb)), World.ownsRow.kept h.l hg (ne_row fun b hb => hne b (.inr (.inl hb))), World.ownsRow.kept h.i hg (ne_row fun b hb => hne b (.inr (.inr hb)))⟩
theorem grownBy_put (w : World) (g i : Nat) (u : Value) : w.grownBy (w.setCell ⟨g, i, none⟩ u) (some g) :=
  ⟨rfl, rfl, rfl, by simp [World.setCell], fun k _ hk => Below.heap_setCell _ _ _ _ (fun e => hk (by rw [e]))⟩
/-- A block of another type is none of a cell's. -/
theorem C3.other {w : World} {B : Nat} {u : Sl3} {c : CellD} (h : C3 w B u c) {g : Nat} {t : TypeId} {cs : Array Value} (hb : Bk w g t cs) (ht : t ≠ 62 ∧ t ≠ 67 ∧ t ≠ 72) : ∀ b, blkOf u b → (some g : Option Nat) ≠ some b := by
  intro b hu e
  simp only [Option.some.injEq] at e
  subst e
  have key : ∀ {e : TypeId} {s n : Nat} {v : Value} {xs : List Value}, w.ownsRow B e s v n xs → v.ownBlock = some g → t = e := by
    intro e s n v xs hr hv
    rcases hr.2 with ⟨rfl, _⟩ | ⟨g', cap, cur, rfl, _, hh, _⟩
    · simp [Value.ownBlock] at hv
    · simp [Value.ownBlock] at hv
      subst hv
      unfold Bk at hb
      rw [hb] at hh
      simp at hh
      exact hh.2
  rcases hu with hu | hu | hu
  · exact ht.1 (key h.s hu)
  · exact ht.2.1 (key h.l hu)
  · exact ht.2.2 (key h.i hu)
theorem own_otherT {w : World} {B : Nat} {e : TypeId} {s n : Nat} {v : Value} {xs : List Value} (hr : w.ownsRow B e s v n xs) {g : Nat} {t : TypeId} {cs : Array Value} (hb : Bk w g t cs) (ht : t ≠ e) : v.ownBlock = none ∨ v.ownBlock ≠ some g := by
  refine ne_row (row := some g) fun b hv e2 => ?_
  simp only [Option.some.injEq] at e2
  subst e2
  rcases hr.2 with ⟨rfl, _⟩ | ⟨g', cap, cur, rfl, _, hh, _⟩
  · simp [Value.ownBlock] at hv
  · simp [Value.ownBlock] at hv
    subst hv
    unfold Bk at hb
    rw [hb] at hh
    simp at hh
    exact ht hh.2
/-- A row of one of a cell's types is none of the blocks of a list of cells. -/
theorem CW.kept {w w' : World} {B : Nat} {v : Value} {ps : List (CellD × Sl3)} {row : Option Nat} (h : CW w B v ps) (hg : w.grownBy w' row) (h1 : v.ownBlock = none ∨ v.ownBlock ≠ row) (h2 : ∀ p ∈ ps, ∀ b, blkOf p.2 b → row ≠ some b) : CW w' B v ps :=
  ⟨World.ownsRow.kept h.own hg h1, fun k p hp => (h.each k p hp).kept hg (h2 p (List.mem_of_getElem? hp))⟩

/-- The parser's state st, in memory: its block g of type t holds what pv says. -/
structure PMx (t : TypeId) (pv : Value → PS → Sl3 → Array Value) (w : World) (B g : Nat) (st : PS) (cv : Value) (ps : List (CellD × Sl3)) (u : Sl3) : Prop where
  bk : Bk w g t (pv cv st u)
  eq : ps.map Prod.fst = st.done
  lib : CW w B cv ps
  cur : C3 w B u st.cell
  apart : Apart3 (ps.map Prod.snd ++ if st.op = true then [u] else [])
  hg : B ≤ g
def pvI (cv : Value) (st : PS) (u : Sl3) : Array Value := #[cv, .string st.cell.name, u.s, u.l, u.i, .bool st.op]
def pvS (cv : Value) (st : PS) (u : Sl3) : Array Value := #[cv, .bool st.op, .string st.cell.name, u.s, u.l, u.i]
abbrev PMi := PMx 83 pvI
/-- What the code's own bounds keep. -/
structure StOk (st : PS) : Prop where
  n : st.done.length ≤ 8
  op : st.op = true → st.done.length < 8
  s : st.cell.shapes.length ≤ 24
  l : st.cell.labels.length ≤ 8
  i : st.cell.insts.length ≤ 8
  each : ∀ c ∈ st.done, c.shapes.length ≤ 24 ∧ c.labels.length ≤ 8 ∧ c.insts.length ≤ 8

section
variable {t : TypeId} {pv : Value → PS → Sl3 → Array Value} {w w' : World} {B g : Nat} {st : PS} {cv : Value} {ps : List (CellD × Sl3)} {u : Sl3}
theorem PMx.on (h : PMx t pv w B g st cv ps u) (hb : Below w.heap.size w w') : PMx t pv w' B g st cv ps u := ⟨h.bk.on hb, h.eq, h.lib.on hb, h.cur.on hb, h.apart, h.hg⟩
theorem PMx.libV (h : PMx t pv w B g st cv ps u) : LibV w B cv st.done := ⟨ps, h.eq, h.lib⟩
theorem PMx.len (h : PMx t pv w B g st cv ps u) : ps.length = st.done.length := by rw [← h.eq, List.length_map]
end

end Go.Proofs.YtcckamhokdodnaaGreatDoor
