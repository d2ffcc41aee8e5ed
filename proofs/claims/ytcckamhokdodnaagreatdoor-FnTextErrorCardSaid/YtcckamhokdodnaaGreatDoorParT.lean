/- What a line of a library's text means, plainly: words, numbers, the state that a line leaves. No conditions. -/
import Derived.Test.YtcckamhokdodnaaGreatDoorDecA
namespace Go.Proofs.YtcckamhokdodnaaGreatDoor
open Go.RowKit

def IsNum (s : ByteArray) (n : Int) : Prop := (-999999999 ≤ n ∧ n ≤ 999999999) ∧ s = ⟨(Lib.itoa n).toArray⟩
theorem isNum_one {s : ByteArray} {n m : Int} (h : IsNum s n) (h2 : IsNum s m) : n = m := itoa_one (congrArg (fun b : ByteArray => b.data.toList) (h.2.symm.trans h2.2))
open Classical in
noncomputable def numV (s : ByteArray) : Option Int := if h : ∃ n, IsNum s n then some h.choose else none
theorem numV_yes {s : ByteArray} {n : Int} (h : IsNum s n) : numV s = some n := by
  have hx : ∃ n, IsNum s n := ⟨n, h⟩
  unfold numV
  rw [dif_pos hx, isNum_one hx.choose_spec h]
theorem numV_no {s : ByteArray} (h : ∀ m : Int, -999999999 ≤ m → m ≤ 999999999 → s ≠ ⟨(Lib.itoa m).toArray⟩) : numV s = none := by
  unfold numV
  rw [dif_neg]
  rintro ⟨n, ⟨h1, h2⟩, h3⟩
  exact h n h1 h2 h3
theorem ans_yes {s : ByteArray} {n : Int} (h : NumAns s n true) : numV s = some n ∧ (-999999999 ≤ n ∧ n ≤ 999999999) := ⟨numV_yes (h.1 rfl), (h.1 rfl).1⟩
theorem ans_no {s : ByteArray} {n : Int} (h : NumAns s n false) : numV s = none := numV_no (h.2 rfl)
theorem numV_some {s : ByteArray} {n : Int} (h : numV s = some n) : IsNum s n := by
  unfold numV at h
  split at h
  · rename_i hx
    simp only [Option.some.injEq] at h
    rw [← h]
    exact hx.choose_spec
  · cases h

/-- The kinds of words behind a keyword. -/
inductive Kd where
  | lay | ori | num | nam | new | cel
  deriving DecidableEq
def Kd.lo : Kd → UInt8
  | .lay => 108 | .ori => 111 | .num => 110 | .nam => 78 | .new => 78 | .cel => 99
def Kd.up : Kd → UInt8
  | .lay => 76 | .ori => 79 | .num => 78 | .nam => 65 | .new => 66 | .cel => 67

def idxC (cs : List CellD) (s : ByteArray) : Int := idxF (fun c => eqName c.name s) cs
/-- What the word s of a kind stands for, and a code. -/
noncomputable def wordV (cs : List CellD) (k : Kd) (s : ByteArray) : Int × Int :=
  match k with
  | .lay => if 0 ≤ Lib.idxOfS layN s then (Lib.idxOfS layN s, 0) else (0, 5)
  | .ori => if 0 ≤ Lib.idxOfS oriN s then (Lib.idxOfS oriN s, 0) else (0, 5)
  | .cel => if 0 ≤ idxC cs s then (idxC cs s, 0) else (0, 5)
  | .num => match numV s with
    | some n => (n, 0)
    | none => (0, 4)
  | .nam => if nameB s = true then (0, 0) else (0, 4)
  | .new => if nameB s = true then (if 0 ≤ idxC cs s then (0, 6) else (0, 0)) else (0, 4)

abbrev kwCell : ByteArray := ⟨#[99, 101, 108, 108]⟩
abbrev kwRect : ByteArray := ⟨#[114, 101, 99, 116]⟩
abbrev kwLabel : ByteArray := ⟨#[108, 97, 98, 101, 108]⟩
abbrev kwPlace : ByteArray := ⟨#[112, 108, 97, 99, 101]⟩
abbrev kwArray : ByteArray := ⟨#[97, 114, 114, 97, 121]⟩
abbrev kwEnd : ByteArray := ⟨#[101, 110, 100]⟩

/-- The keywords. -/
inductive Kw where
  | cell | rect | label | place | array | fin
  deriving DecidableEq
def Kw.txt : Kw → ByteArray
  | .cell => kwCell | .rect => kwRect | .label => kwLabel | .place => kwPlace | .array => kwArray | .fin => kwEnd
def Kw.ks : Kw → List Kd
  | .cell => [.new]
  | .rect => [.lay, .num, .num, .num, .num]
  | .label => [.lay, .num, .num, .nam]
  | .place => [.cel, .ori, .num, .num]
  | .array => [.cel, .ori, .num, .num, .num, .num, .num, .num]
  | .fin => []
def kwOf (s : ByteArray) : Option Kw := if s = kwCell then some .cell else if s = kwRect then some .rect else if s = kwLabel then some .label else if s = kwPlace then some .place else if s = kwArray then some .array else if s = kwEnd then some .fin else none
theorem kwOf_some {s : ByteArray} {k : Kw} (h : kwOf s = some k) : s = k.txt := by
  unfold kwOf at h
  by_cases h0 : s = kwCell
  · rw [if_pos h0] at h; cases h; exact h0
  rw [if_neg h0] at h
  by_cases h1 : s = kwRect
  · rw [if_pos h1] at h; cases h; exact h1
  rw [if_neg h1] at h
  by_cases h2 : s = kwLabel
  · rw [if_pos h2] at h; cases h; exact h2
  rw [if_neg h2] at h
  by_cases h3 : s = kwPlace
  · rw [if_pos h3] at h; cases h; exact h3
  rw [if_neg h3] at h
  by_cases h4 : s = kwArray
  · rw [if_pos h4] at h; cases h; exact h4
  rw [if_neg h4] at h
  by_cases h5 : s = kwEnd
  · rw [if_pos h5] at h; cases h; exact h5
  rw [if_neg h5] at h
  cases h
theorem kwOf_txt (k : Kw) : kwOf k.txt = some k := by cases k <;> rfl

structure PS where
  done : List CellD
  cell : CellD
  op : Bool
def at0 (v : List Int) (k : Nat) : Int := v.getD k 0
def wAt (ws : List ByteArray) (k : Nat) : ByteArray := ws.getD k ⟨#[]⟩
def shapeOf (v : List Int) : ShapeD := ⟨at0 v 0, ⟨at0 v 1, at0 v 2, at0 v 3, at0 v 4⟩⟩
def labelOf (ws : List ByteArray) (v : List Int) : LabelD := ⟨at0 v 0, at0 v 1, at0 v 2, wAt ws 4⟩
def instOf (k : Kw) (v : List Int) : InstD :=
  if k = .array then ⟨at0 v 0, at0 v 1, at0 v 2, at0 v 3, at0 v 4, at0 v 5, at0 v 6, at0 v 7⟩ else ⟨at0 v 0, at0 v 1, at0 v 2, at0 v 3, 1, 1, 0, 0⟩
/-- A line that begins with the keyword k is taken: a code and the state behind it. -/
def takeV (st : PS) (k : Kw) (ws : List ByteArray) (v : List Int) : Int × PS :=
  match k with
  | .cell => if st.done.length = 8 then (3, st) else (0, ⟨st.done, ⟨wAt ws 1, [], [], []⟩, true⟩)
  | .fin => (0, ⟨st.done ++ [st.cell], st.cell, false⟩)
  | .rect => if st.cell.shapes.length = 24 then (3, st) else if shapeB (shapeOf v) = true then (0, { st with cell := { st.cell with shapes := st.cell.shapes ++ [shapeOf v] } }) else (1, st)
  | .label => if st.cell.labels.length = 8 then (3, st) else if labelB (labelOf ws v) = true then (0, { st with cell := { st.cell with labels := st.cell.labels ++ [labelOf ws v] } }) else (1, st)
  | .place | .array => if st.cell.insts.length = 8 then (3, st) else if instB (instOf k v) st.done.length = true then (0, { st with cell := { st.cell with insts := st.cell.insts ++ [instOf k v] } }) else (1, st)

/-- The values of the words of the first i kinds. -/
noncomputable def valsV (cs : List CellD) (ks : List Kd) (ws : List ByteArray) : List Int := (ks.zip ws).map fun p => (wordV cs p.1 p.2).1
/-- The code of the word i behind the first. -/
noncomputable def codeAt (cs : List CellD) (ks : List Kd) (ws : List ByteArray) (i : Nat) : Int := match (ks.zip ws)[i]? with
  | some p => (wordV cs p.1 p.2).2
  | none => 0
/-- The first word with a code, if any. -/
noncomputable def badV (cs : List CellD) (ks : List Kd) (ws : List ByteArray) : Option Nat := (List.range ks.length).find? fun i => decide (codeAt cs ks ws i ≠ 0)

structure LA where
  code : Int
  col : Int
  st : PS
/-- A line: its code, the column and the state behind it. -/
noncomputable def lineV (st : PS) (s : ByteArray) : LA :=
  let ws := (colsT s).ws
  let cs := (colsT s).cs
  if ws = [] ∨ (wAt ws 0).data.toList.head? = some 35 then ⟨0, 0, st⟩
  else match kwOf (wAt ws 0) with
    | none => ⟨4, at0 cs 0, st⟩
    | some k =>
      if k.ks.length + 1 < ws.length then ⟨4, at0 cs (k.ks.length + 1), st⟩
      else if ws.length < k.ks.length + 1 then ⟨4, (s.size : Int) + 1, st⟩
      else if st.op = decide (k = .cell) then ⟨6, at0 cs 0, st⟩
      else match badV st.done k.ks ws.tail with
        | some i => ⟨codeAt st.done k.ks ws.tail i, at0 cs (i + 1), st⟩
        | none => ⟨(takeV st k ws (valsV st.done k.ks ws.tail)).1, at0 cs 0, (takeV st k ws (valsV st.done k.ks ws.tail)).2⟩

/-- The lines from number i on: the answer's code, line and column, and the state behind. -/
noncomputable def runV : List ByteArray → Nat → PS → (Int × Int × Int) × PS
  | [], _, st => ((0, 0, 0), st)
  | s :: r, i, st => if (lineV st s).code = 0 then runV r (i + 1) (lineV st s).st else (((lineV st s).code, (i : Int) + 1, (lineV st s).col), st)
def ps0 : PS := ⟨[], ⟨⟨#[]⟩, [], [], []⟩, false⟩
/-- A text's lines: the library (empty if there is an error), and the error. -/
noncomputable def parseV (size : Nat) (ls : List ByteArray) : List CellD × (Int × Int × Int) :=
  if 12000 < size ∨ 600 < ls.length then ([], (3, 0, 0))
  else if (runV ls 0 ps0).1.1 ≠ 0 then ([], (runV ls 0 ps0).1)
  else if (runV ls 0 ps0).2.op = true ∨ (runV ls 0 ps0).2.done = [] then ([], (4, (ls.length : Int) + 1, 1))
  else ((runV ls 0 ps0).2.done, (0, 0, 0))

theorem bad_none {cs : List CellD} {ks : List Kd} {ws : List ByteArray} (h : ∀ i, i < ks.length → codeAt cs ks ws i = 0) : badV cs ks ws = none := by
  unfold badV
  rw [List.find?_eq_none]
  intro i hi
  simpa using h i (List.mem_range.1 hi)
theorem bad_some {cs : List CellD} {ks : List Kd} {ws : List ByteArray} {k : Nat} (hk : k < ks.length) (h : ∀ i, i < k → codeAt cs ks ws i = 0) (h2 : codeAt cs ks ws k ≠ 0) : badV cs ks ws = some k := by
  unfold badV
  rw [List.find?_eq_some_iff_append]
  refine ⟨by simpa using h2, List.range k, (List.range (ks.length - k - 1)).map (fun j => k + 1 + j), ?_, fun i hi => by simpa using h i (List.mem_range.1 hi)⟩
  rw [← List.range'_eq_map_range, show List.range ks.length = List.range' 0 (k + (1 + (ks.length - k - 1))) by rw [List.range_eq_range']; congr 1; omega, ← List.range'_append_1, ← List.range'_append_1]
  simp [List.range_eq_range', List.range'_succ]
theorem at0_at {v : List Int} {k : Nat} {n : Int} (h : v[k]? = some n) : at0 v k = n := by simp [at0, h]
theorem wAt_at {v : List ByteArray} {k : Nat} {n : ByteArray} (h : v[k]? = some n) : wAt v k = n := by simp [wAt, h]

/-- The columns are the starts of the words. -/
theorem colRun_len (s : ByteArray) : ∀ (k i : Nat) (x : ColS), x.cs.length = x.ws.length → (colRun s k i x).cs.length = (colRun s k i x).ws.length
  | 0, _, _, h => h
  | k + 1, i, x, h => by
    refine colRun_len s k (i + 1) _ ?_
    unfold colStep
    split
    · exact h
    · split
      · simp [h]
      · exact h
theorem cols_len (s : ByteArray) : (colsT s).cs.length = (colsT s).ws.length := colRun_len s _ _ _ rfl
theorem colRun_small (s : ByteArray) (N : Nat) : ∀ (k i : Nat) (x : ColS), i + k ≤ N + 1 → x.f ≤ N → (∀ c ∈ x.cs, 0 ≤ c ∧ c ≤ (N : Int) + 1) → (∀ w ∈ x.ws, w.size ≤ s.size) → (∀ c ∈ (colRun s k i x).cs, 0 ≤ c ∧ c ≤ (N : Int) + 1) ∧ ∀ w ∈ (colRun s k i x).ws, w.size ≤ s.size
  | 0, _, _, _, _, h, h2 => ⟨h, h2⟩
  | k + 1, i, x, hi, hf, h, h2 => by
    refine colRun_small s N k (i + 1) _ (by omega) ?_ ?_ ?_
    · unfold colStep
      split
      · dsimp only; omega
      · split
        · dsimp only; omega
        · exact hf
    · unfold colStep
      split
      · exact h
      · split
        · rename_i h3
          intro c hc
          simp only [List.mem_append, List.mem_singleton] at hc
          rcases hc with hc | rfl
          · exact h c hc
          · omega
        · exact h
    · unfold colStep
      split
      · exact h2
      · split
        · intro c hc
          simp only [List.mem_append, List.mem_singleton] at hc
          rcases hc with hc | rfl
          · exact h2 c hc
          · rw [ByteArray.size_extract]; omega
        · exact h2
theorem cols_small (s : ByteArray) : (∀ c ∈ (colsT s).cs, 0 ≤ c ∧ c ≤ (s.size : Int) + 1) ∧ ∀ w ∈ (colsT s).ws, w.size ≤ s.size :=
  colRun_small s s.size _ _ _ (by omega) (by dsimp only; omega) (by simp) (by simp)
/-- No word is empty. -/
def wordsOk (i : Nat) (x : ColS) : Prop := (∀ w ∈ x.ws, w.size ≠ 0) ∧ (0 ≤ x.f → x.f < i)
theorem colRun_words (s : ByteArray) : ∀ (k i : Nat) (x : ColS), i + k ≤ s.size + 1 → wordsOk i x → wordsOk (i + k) (colRun s k i x)
  | 0, _, _, _, h => h
  | k + 1, i, x, hi, h => by
    have e : i + (k + 1) = i + 1 + k := by omega
    rw [e]
    refine colRun_words s k (i + 1) _ (by omega) ?_
    obtain ⟨h1, h2⟩ := h
    unfold colStep
    split
    · exact ⟨h1, fun _ => by dsimp only; omega⟩
    · split
      · rename_i h3
        refine ⟨?_, fun h => by dsimp only at h; omega⟩
        intro c hc
        simp only [List.mem_append, List.mem_singleton] at hc
        rcases hc with hc | rfl
        · exact h1 c hc
        · rw [ByteArray.size_extract]
          have := h2 h3.2
          omega
      · exact ⟨h1, fun h => by have := h2 h; omega⟩
theorem cols_words (s : ByteArray) : ∀ w ∈ (colsT s).ws, w.size ≠ 0 := (colRun_words s _ _ _ (by omega) ⟨by simp, fun h => by dsimp only at h; omega⟩).1

end Go.Proofs.YtcckamhokdodnaaGreatDoor
