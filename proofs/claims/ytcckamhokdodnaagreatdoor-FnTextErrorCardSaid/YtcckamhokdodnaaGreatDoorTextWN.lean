/- What an accepted text describes is valid; a line in between that no keyword begins is reported; plainly. No conditions. Plain law: each line of a valid library's text has words, few and short; the libraries that are drawn are valid. No conditions. -/
import Derived.Test.YtcckamhokdodnaaGreatDoorTextM
import Derived.Test.YtcckamhokdodnaaGreatDoorDrawP
namespace Go.Proofs.YtcckamhokdodnaaGreatDoor
open Go.RowKit

theorem okAt_app {xs ys : List CellD} {i : Nat} (h : i < xs.length) : okAt (xs ++ ys) i = okAt xs i := by
  unfold okAt
  rw [List.getElem?_append_left h, List.take_append_of_le_length (by omega)]
/-- All of a parser's state is valid. -/
structure StVal (st : PS) : Prop where
  ok : StOk st
  done : okTo st.done st.done.length = true
  cell : st.op = true → nameB st.cell.name = true ∧ (st.done.any fun d => eqName d.name st.cell.name) = false ∧ (∀ s ∈ st.cell.shapes, shapeB s = true) ∧ (∀ l ∈ st.cell.labels, labelB l = true) ∧ ∀ i ∈ st.cell.insts, instB i st.done.length = true
theorem StVal.zero : StVal ps0 := ⟨StOk.zero, by decide, fun h => by cases h⟩
theorem idx_neg {cs : List CellD} {s : ByteArray} (h : ¬ 0 ≤ idxC cs s) : (cs.any fun d => eqName d.name s) = false := by
  cases e : cs.any fun d => eqName d.name s with
  | false => rfl
  | true =>
    have := idxF_pos (fun c : CellD => eqName c.name s) cs
    rw [e] at this
    exact absurd (of_decide_eq_true this) h
theorem mem_snoc {α : Type} {p : α → Prop} {xs : List α} {x : α} (h : ∀ y ∈ xs, p y) (hx : p x) : ∀ y ∈ xs ++ [x], p y := by
  intro y hy
  simp only [List.mem_append, List.mem_singleton] at hy
  rcases hy with hy | rfl
  · exact h y hy
  · exact hx
theorem StVal.take {st : PS} (h : StVal st) {k : Kw} (hs : st.op = decide (k ≠ .cell)) (ws : List ByteArray) (v : List Int) (hc : k = .cell → nameB (wAt ws 1) = true ∧ ¬ 0 ≤ idxC st.done (wAt ws 1)) : StVal (takeV st k ws v).2 := by
  obtain ⟨hok, hd, hcell⟩ := h
  refine ⟨hok.take hs ws v, ?_, ?_⟩
  · cases k with
    | cell =>
      unfold takeV
      by_cases h8 : st.done.length = 8
      · rw [if_pos h8]; exact hd
      · rw [if_neg h8]; exact hd
    | fin =>
      obtain ⟨a, b, c, d, e⟩ := hcell (by rw [hs]; rfl)
      unfold takeV
      dsimp only
      rw [List.length_append, List.length_singleton]
      refine okTo_succ ?_ ?_
      · unfold okTo at hd ⊢
        rw [List.all_eq_true] at hd ⊢
        intro i hi
        rw [okAt_app (List.mem_range.1 hi)]
        exact hd i hi
      · rw [okAt_eq (c := st.cell) (by simp)]
        have hx : (List.take st.done.length (st.done ++ [st.cell])) = st.done := by simp
        rw [hx, b]
        have hb1 : badS st.cell.shapes = false := by
          unfold badS
          rw [List.any_eq_false]
          intro x hx
          simp [c x hx]
        have hb2 : badL st.cell.labels = false := by
          unfold badL
          rw [List.any_eq_false]
          intro x hx
          simp [d x hx]
        have hb3 : badI st.cell.insts (st.done.length : Nat) = false := by
          unfold badI
          rw [List.any_eq_false]
          intro x hx
          simp [e x hx]
        have h1 := hok.s
        have h2 := hok.l
        have h3 := hok.i
        unfold cellB
        rw [a, hb1, hb2, hb3, decide_eq_true (show ((st.cell.shapes.length : Nat) : Int) ≤ 24 by omega), decide_eq_true (show ((st.cell.labels.length : Nat) : Int) ≤ 8 by omega), decide_eq_true (show ((st.cell.insts.length : Nat) : Int) ≤ 8 by omega)]
        rfl
    | rect =>
      by_cases hl : st.cell.shapes.length = 24
      · rw [takeV_rect_lim ws v hl]; exact hd
      · cases hb : shapeB (shapeOf v) with
        | false => rw [takeV_rect_bad hl hb]; exact hd
        | true => rw [takeV_rect_ok hl hb]; exact hd
    | label =>
      by_cases hl : st.cell.labels.length = 8
      · rw [takeV_label_lim ws v hl]; exact hd
      · cases hb : labelB (labelOf ws v) with
        | false => rw [takeV_label_bad hl hb]; exact hd
        | true => rw [takeV_label_ok hl hb]; exact hd
    | place =>
      by_cases hl : st.cell.insts.length = 8
      · rw [takeV_place_lim ws v hl]; exact hd
      · cases hb : instB (instOf .place v) st.done.length with
        | false => rw [takeV_place_bad hl hb]; exact hd
        | true => rw [takeV_place_ok hl hb]; exact hd
    | array =>
      by_cases hl : st.cell.insts.length = 8
      · rw [takeV_array_lim ws v hl]; exact hd
      · cases hb : instB (instOf .array v) st.done.length with
        | false => rw [takeV_array_bad hl hb]; exact hd
        | true => rw [takeV_array_ok hl hb]; exact hd
  · cases k with
    | cell =>
      unfold takeV
      by_cases h8 : st.done.length = 8
      · rw [if_pos h8]; exact hcell
      · rw [if_neg h8]
        obtain ⟨a, b⟩ := hc rfl
        exact fun _ => ⟨a, idx_neg b, by simp, by simp, by simp⟩
    | fin =>
      unfold takeV
      exact fun h => by cases h
    | rect =>
      by_cases hl : st.cell.shapes.length = 24
      · rw [takeV_rect_lim ws v hl]; exact hcell
      · cases hb : shapeB (shapeOf v) with
        | false => rw [takeV_rect_bad hl hb]; exact hcell
        | true =>
          rw [takeV_rect_ok hl hb]
          intro ho
          obtain ⟨a, b, c, d, e⟩ := hcell ho
          exact ⟨a, b, mem_snoc c hb, d, e⟩
    | label =>
      by_cases hl : st.cell.labels.length = 8
      · rw [takeV_label_lim ws v hl]; exact hcell
      · cases hb : labelB (labelOf ws v) with
        | false => rw [takeV_label_bad hl hb]; exact hcell
        | true =>
          rw [takeV_label_ok hl hb]
          intro ho
          obtain ⟨a, b, c, d, e⟩ := hcell ho
          exact ⟨a, b, c, mem_snoc d hb, e⟩
    | place =>
      by_cases hl : st.cell.insts.length = 8
      · rw [takeV_place_lim ws v hl]; exact hcell
      · cases hb : instB (instOf .place v) st.done.length with
        | false => rw [takeV_place_bad hl hb]; exact hcell
        | true =>
          rw [takeV_place_ok hl hb]
          intro ho
          obtain ⟨a, b, c, d, e⟩ := hcell ho
          exact ⟨a, b, c, d, mem_snoc e hb⟩
    | array =>
      by_cases hl : st.cell.insts.length = 8
      · rw [takeV_array_lim ws v hl]; exact hcell
      · cases hb : instB (instOf .array v) st.done.length with
        | false => rw [takeV_array_bad hl hb]; exact hcell
        | true =>
          rw [takeV_array_ok hl hb]
          intro ho
          obtain ⟨a, b, c, d, e⟩ := hcell ho
          exact ⟨a, b, c, d, mem_snoc e hb⟩
theorem StVal.line {st : PS} (h : StVal st) (s : ByteArray) : StVal (lineV st s).st := by
  obtain ⟨ws, cs, f, E⟩ : ∃ ws cs f, colsT s = ⟨ws, cs, f⟩ := ⟨_, _, _, rfl⟩
  by_cases h0 : ws = []
  · rw [line_empty E h0]; exact h
  by_cases h1 : (wAt ws 0).data.toList.head? = some 35
  · rw [line_note E h1]; exact h
  cases hk : kwOf (wAt ws 0) with
  | none => rw [line_unknown E h0 h1 hk]; exact h
  | some k =>
    rw [line_known E h0 h1 hk]
    split
    · exact h
    · rename_i g1
      split
      · exact h
      · rename_i g2
        split
        · exact h
        · rename_i h5
          split
          · exact h
          · rename_i hb
            refine h.take (kw_op h5) _ _ ?_
            rintro rfl
            have hl : ws.length = 2 := by
              have : Kw.cell.ks.length = 1 := rfl
              omega
            obtain ⟨a, x, rfl⟩ : ∃ a x, ws = [a, x] := by
              match ws, hl with
              | [a, x], _ => exact ⟨a, x, rfl⟩
            have hz : codeAt st.done Kw.cell.ks [x] 0 = 0 := by
              unfold badV at hb
              rw [List.find?_eq_none] at hb
              exact Decidable.byContradiction fun hne => hb 0 (by decide) (decide_eq_true hne)
            have hz2 : (wordV st.done .new x).2 = 0 := hz
            unfold wordV at hz2
            dsimp only at hz2
            rw [show wAt [a, x] 1 = x from rfl]
            split at hz2
            · rename_i hn
              refine ⟨hn, ?_⟩
              split at hz2
              · cases hz2
              · rename_i hi
                exact hi
            · cases hz2
theorem run_val : ∀ (ls : List ByteArray) (i : Nat) {st : PS}, StVal st → StVal (runV ls i st).2
  | [], _, _, h => h
  | s :: r, i, st, h => by
    rw [runV]
    split
    · exact run_val r (i + 1) (h.line s)
    · exact h
/-- What ParseLibrary answers: an error and no cell, or a valid library. -/
theorem parse_cases (size : Nat) (ls : List ByteArray) : ((parseV size ls).2.1 ≠ 0 ∧ (parseV size ls).1 = []) ∨ ((parseV size ls).2 = (0, 0, 0) ∧ libB (parseV size ls).1 = true) := by
  have h := run_val ls 0 StVal.zero
  unfold parseV
  split
  · exact .inl ⟨by decide, rfl⟩
  · split
    · rename_i h2
      exact .inl ⟨h2, rfl⟩
    · split
      · exact .inl ⟨by simp, rfl⟩
      · rename_i h3
        refine .inr ⟨rfl, ?_⟩
        simp only [not_or] at h3
        have hn := h.ok.n
        have hp : 0 < (runV ls 0 ps0).2.done.length := List.length_pos_iff.2 h3.2
        unfold libB
        dsimp only
        rw [decide_eq_true (show 1 ≤ (((runV ls 0 ps0).2.done.length : Nat) : Int) by omega), decide_eq_true (show (((runV ls 0 ps0).2.done.length : Nat) : Int) ≤ 8 by omega), h.done]
        rfl

/-! A line that no keyword begins. -/
def whatL : List UInt8 := [32, 32, 119, 104, 97, 116, 32, 49]
theorem cols_what : colsT (txt whatL) = ⟨[txt [119, 104, 97, 116], txt [49]], [3, 8], -1⟩ := by kernel_rfl
theorem line_what (st : PS) : lineV st (txt whatL) = ⟨4, 3, st⟩ := by
  rw [line_unknown cols_what (by simp) (by decide) (by decide)]
  rfl
theorem lib_split (cs : List CellD) (k : Nat) : linesTo cs cs.length = linesTo cs k ++ (cs.drop k).flatMap (cellLines cs) := by
  unfold linesTo
  rw [List.take_length, ← List.flatMap_append, List.take_append_drop]
theorem libT_split (cs : List CellD) (k : Nat) : libT cs = libTo cs k ++ ((cs.drop k).flatMap (cellLines cs)).flatMap fun x => x ++ [10] := by
  unfold libT
  rw [libTo_lines, libTo_lines, lib_split cs k, List.flatMap_append]
theorem parse_what {cs : List CellD} (h : libB cs = true) {k : Nat} (hk : k ≤ cs.length) {r : List UInt8} (hr : libT cs = libTo cs k ++ r) :
    parseV (txt (libTo cs k ++ (whatL ++ 10 :: r))).size (linesT (txt (libTo cs k ++ (whatL ++ 10 :: r)))) = ([], (4, ((linesTo cs k).length : Int) + 1, 3)) := by
  have e : r = ((cs.drop k).flatMap (cellLines cs)).flatMap fun x => x ++ [10] := List.append_cancel_left (hr.symm.trans (libT_split cs k))
  have hn := lines_no10 h cs.length (Nat.le_refl _)
  rw [lib_split cs k] at hn
  obtain ⟨l1, l2⟩ := lib_len h
  have hl : linesT (txt (libTo cs k ++ (whatL ++ 10 :: r))) = (linesTo cs k).map txt ++ (txt whatL :: ((cs.drop k).flatMap (cellLines cs)).map txt) := by
    unfold linesT
    rw [txt_list, libTo_lines, cutL_lines _ _ (fun x hx => hn x (List.mem_append_left _ hx)), cutL_line whatL [] r (by decide)]
    have e2 := cutL_lines ((cs.drop k).flatMap (cellLines cs)) [] (fun x hx => hn x (List.mem_append_right _ hx))
    rw [List.append_nil, ← e] at e2
    rw [e2, show cutL [] ([] : List UInt8) = [] from rfl, List.append_nil, List.map_append]
    rfl
  obtain ⟨x, hx⟩ := run_lib h k hk
  rw [hr, List.length_append] at l1
  rw [lib_split cs k, List.length_append] at l2
  rw [hl, txt_size]
  refine parse_bad (st := ⟨cs.take k, x, false⟩) ?_ ?_ (by decide)
  · simp only [List.length_append, List.length_cons, List.length_map, show whatL.length = 8 from rfl]
    omega
  · rw [hx 0, runV, line_what]
    simp
/-- The newlines ahead of a cell's line. -/
theorem count_to {cs : List CellD} (h : libB cs = true) {k : Nat} (hk : k ≤ cs.length) : (libTo cs k).count 10 = (linesTo cs k).length := by
  have hn := lines_no10 h k hk
  rw [libTo_lines]
  have key : ∀ xs : List (List UInt8), (∀ x ∈ xs, ∀ b ∈ x, b ≠ 10) → (xs.flatMap fun x => x ++ [10]).count 10 = xs.length := by
    intro xs
    induction xs with
    | nil => intro _; rfl
    | cons x xs ih =>
      intro h
      rw [List.flatMap_cons, List.count_append, List.count_append, ih fun y hy => h y (List.mem_cons_of_mem _ hy), List.count_eq_zero.2 fun h2 => h x List.mem_cons_self 10 h2 rfl, List.length_cons]
      simp
      omega
  exact key _ hn
theorem count_less {cs : List CellD} (h : libB cs = true) {k : Nat} (hk : k ≤ cs.length) {n : Nat} (hn : n < (libTo cs k).length) : ((libTo cs k).take n).count 10 < (linesTo cs k).length := by
  rw [← count_to h hk]
  have hlast : ∃ q, libTo cs k = q ++ [10] := by
    rw [libTo_lines] at hn ⊢
    cases e : (linesTo cs k).reverse with
    | nil =>
      have : linesTo cs k = [] := by simpa using e
      rw [this] at hn
      simp at hn
    | cons x r =>
      have : linesTo cs k = r.reverse ++ [x] := by
        have := congrArg List.reverse e
        simpa using this
      rw [this, List.flatMap_append]
      exact ⟨_, by rw [List.flatMap_singleton, ← List.append_assoc]⟩
  obtain ⟨q, hq⟩ := hlast
  rw [hq] at hn ⊢
  rw [List.length_append, List.length_singleton] at hn
  rw [List.take_append_of_le_length (by omega), List.count_append]
  have h1 : (q.take n).count 10 ≤ q.count 10 := List.Sublist.count_le 10 (List.take_sublist n q)
  have h2 : [(10 : UInt8)].count 10 = 1 := rfl
  omega
/-- What stands at a cell's line. -/
theorem head_at_line {cs : List CellD} {k : Nat} {c : CellD} (hk : cs[k]? = some c) : ∃ q, libT cs = libTo cs k ++ (headC c ++ q) := by
  have hlt : k < cs.length := (List.getElem?_eq_some_iff.1 hk).1
  have h1 : libTo cs cs.length = libTo cs (k + 1) ++ (cs.drop (k + 1)).flatMap (cellT cs) := by
    unfold libTo
    rw [List.take_length, ← List.flatMap_append, List.take_append_drop]
  obtain ⟨q, hq⟩ : ∃ q, cellT cs c = headC c ++ q := ⟨shT c c.shapes.length ++ (laT c c.labels.length ++ (inT cs c c.insts.length ++ [101, 110, 100, 10])), by simp only [cellT, List.append_assoc]⟩
  unfold libT
  rw [h1, libTo_snoc hk, hq]
  exact ⟨q ++ (cs.drop (k + 1)).flatMap (cellT cs), by simp only [List.append_assoc]⟩
theorem lines_before (cs : List CellD) : ∀ k, k ≤ cs.length → ((linesTo cs k).length : Int) = ((cs.take k).map fun c => 2 + ((c.shapes.length + c.labels.length + c.insts.length : Nat) : Int)).sum
  | 0, _ => by simp [linesTo]
  | k + 1, hk => by
    have hc : cs[k]? = some cs[k] := List.getElem?_eq_getElem (by omega)
    have e : linesTo cs (k + 1) = linesTo cs k ++ cellLines cs cs[k] := by
      unfold linesTo
      rw [List.take_add_one, hc, List.flatMap_append]
      simp
    rw [e, List.length_append, List.take_add_one, hc, Option.toList, List.map_append, List.sum_append]
    have := lines_before cs k (by omega)
    have h2 : (cellLines cs cs[k]).length = 2 + (cs[k].shapes.length + cs[k].labels.length + cs[k].insts.length) := by
      simp only [cellLines, List.length_append, List.length_cons, List.length_nil, List.length_map]
      omega
    rw [h2, List.map_cons, List.map_nil, List.sum_cons, List.sum_nil]
    omega

end Go.Proofs.YtcckamhokdodnaaGreatDoor

namespace Go.Proofs.YtcckamhokdodnaaGreatDoor
open Go.RowKit

/-- A line of at most nine words, of at most 60 bytes. -/
def GoodL (x : List UInt8) : Prop := x.length ≤ 60 ∧ ∃ w r, x = spell (w :: r) ∧ solid w ∧ (∀ y ∈ r, solid y) ∧ r.length ≤ 8
theorem good_of {x w : List UInt8} {r : List (List UInt8)} (h : x.length ≤ 60) (e : x = spell (w :: r)) (hw : solid w) (hr : ∀ y ∈ r, solid y) (hn : r.length ≤ 8) : GoodL x := ⟨h, w, r, e, hw, hr, hn⟩
theorem lines_good {cs : List CellD} (h : libB cs = true) : ∀ x ∈ linesTo cs cs.length, GoodL x := by
  intro x hx
  unfold linesTo at hx
  rw [List.take_length] at hx
  obtain ⟨c, hc, hx⟩ := List.mem_flatMap.1 hx
  obtain ⟨j, hj⟩ := List.getElem?_of_mem hc
  have hO := lib_facts h hj
  obtain ⟨hn, -⟩ := lib_name h hj
  have hlt : j < cs.length := (List.getElem?_eq_some_iff.1 hj).1
  unfold cellLines at hx
  simp only [List.mem_append, List.mem_singleton, List.mem_map] at hx
  rcases hx with (((rfl | ⟨s, hs, rfl⟩) | ⟨l, hl, rfl⟩) | ⟨i, hi, rfl⟩) | rfl
  · refine good_of ?_ rfl ⟨by decide, by decide⟩ ?_ (by simp)
    · have n1 := hO.name
      rw [← byte_size] at n1
      have : (openT c).length = 5 + c.name.data.toList.length := by simp [openT, spell]; omega
      omega
    · intro y hy
      simp only [List.mem_cons, List.not_mem_nil, or_false] at hy
      subst hy
      exact name_solid hn
  · have hl := shape_len (hO.s s hs)
    refine good_of (by omega) (shape_spell s) ⟨by decide, by decide⟩ ?_ (by simp)
    intro y hy
    simp only [List.mem_cons, List.not_mem_nil, or_false] at hy
    rcases hy with rfl | rfl | rfl | rfl | rfl
    · exact (word_lay (cs := []) (shapeB_parts (hO.s s hs)).1).2
    all_goals exact itoa_solid _
  · have hL : inB 0 l.layer 7 = true := by
      have h2 := hO.l l hl
      unfold labelB at h2
      simp only [Bool.and_eq_true] at h2
      exact h2.1.1
    have hl2 := label_len (hO.l l hl)
    refine good_of (by omega) (label_spell l) ⟨by decide, by decide⟩ ?_ (by simp)
    intro y hy
    simp only [List.mem_cons, List.not_mem_nil, or_false] at hy
    rcases hy with rfl | rfl | rfl | rfl
    · exact (word_lay (cs := []) hL).2
    · exact itoa_solid _
    · exact itoa_solid _
    · exact name_solid (label_parts (hO.l l hl)).2
  · have hI := hO.i i hi
    have hO : inB 0 i.o 7 = true := by
      have h2 := hI
      unfold instB transB at h2
      simp only [Bool.and_eq_true] at h2
      exact h2.1.1.1.1.1.1.2.1.1
    have hx := (inst_idx h hlt hI).1
    have hlen := inst_len hI (inst_cell h hlt hI).choose_spec.2.2.2
    cases ho : oneB i with
    | true =>
      refine good_of (by omega) (place_spell _ ho) ⟨by decide, by decide⟩ ?_ (by simp)
      intro y hy
      simp only [List.mem_cons, List.not_mem_nil, or_false] at hy
      rcases hy with rfl | rfl | rfl | rfl
      · exact name_solid hx
      · exact (word_ori (cs := []) hO).2
      all_goals exact itoa_solid _
    | false =>
      refine good_of (by omega) (array_spell _ ho) ⟨by decide, by decide⟩ ?_ (by simp)
      intro y hy
      simp only [List.mem_cons, List.not_mem_nil, or_false] at hy
      rcases hy with rfl | rfl | rfl | rfl | rfl | rfl | rfl | rfl
      · exact name_solid hx
      · exact (word_ori (cs := []) hO).2
      all_goals exact itoa_solid _
  · exact good_of (by decide) rfl ⟨by decide, by decide⟩ (fun y hy => by cases hy) (by simp)
theorem mem_flat_len {r : List (List UInt8)} {y : List UInt8} (h : y ∈ r) : y.length ≤ (r.flatMap fun x => 32 :: x).length := by
  induction r with
  | nil => cases h
  | cons z r ih =>
    rw [List.flatMap_cons, List.length_append, List.length_cons]
    rcases List.mem_cons.1 h with rfl | h
    · omega
    · have := ih h; omega
/-- What is known of the words of a line under way. -/
def Wd (ws : List ByteArray) : Prop := ws.length ≤ 12 ∧ ∀ s ∈ ws, s.size ≤ 80
def Ld (ls : List ByteArray) : Prop := ls.length ≤ 340 ∧ ∀ s ∈ ls, s.size ≤ 80
theorem words_good {x : List UInt8} (h : GoodL x) : 1 ≤ (colsT (txt x)).ws.length ∧ (colsT (txt x)).ws.length ≤ 9 ∧ ∀ s ∈ (colsT (txt x)).ws, s.size ≤ 60 := by
  obtain ⟨hl, w, r, rfl, hw, hr, hn⟩ := h
  obtain ⟨cs, e⟩ := cols_spell hw hr
  rw [e]
  simp only [spell, List.length_append] at hl
  refine ⟨by simp, by simp; omega, ?_⟩
  intro s hs
  dsimp only at hs
  rcases List.mem_cons.1 hs with rfl | hs
  · rw [txt_size]; omega
  · obtain ⟨y, hy, rfl⟩ := List.mem_map.1 hs
    have := mem_flat_len hy
    rw [txt_size]; omega
theorem text_lines {cs : List CellD} (h : libB cs = true) (hne : 1 ≤ cs.length) : 1 ≤ (linesT (txt (libT cs))).length ∧ Ld (linesT (txt (libT cs))) ∧ (∀ (k : Nat) (s : ByteArray), (linesT (txt (libT cs)))[k]? = some s → (1 ≤ (colsT s).ws.length ∧ (colsT s).ws.length ≤ 9 ∧ ∀ u ∈ (colsT s).ws, u.size ≤ 60)) ∧ (∀ (k : Nat) (s : ByteArray), (linesT (txt (libT cs)))[k]? = some s → s.size ≤ 60) := by
  rw [lines_lib h]
  have hg := lines_good h
  refine ⟨?_, ⟨?_, ?_⟩, ?_, ?_⟩
  · rw [List.length_map]
    match cs, hne with
    | c :: cs, _ =>
      unfold linesTo
      rw [List.take_length, List.flatMap_cons, List.length_append]
      have : 1 ≤ (cellLines (c :: cs) c).length := by simp [cellLines]
      omega
  · rw [List.length_map]
    exact Nat.le_trans (lib_len h).2 (by decide)
  · intro s hs
    obtain ⟨x, hx, rfl⟩ := List.mem_map.1 hs
    rw [txt_size]
    exact Nat.le_trans (hg x hx).1 (by decide)
  · intro k s hk
    obtain ⟨x, hx, rfl⟩ := List.mem_map.1 (List.mem_of_getElem? hk)
    exact words_good (hg x hx)
  · intro k s hk
    obtain ⟨x, hx, rfl⟩ := List.mem_map.1 (List.mem_of_getElem? hk)
    rw [txt_size]
    exact (hg x hx).1
theorem text_size {cs : List CellD} (h : libB cs = true) : (txt (libT cs)).size ≤ 11200 := by rw [txt_size]; exact (lib_len h).1

theorem lib_nm' {cs : List CellD} (h : libB cs = true) : ∀ c ∈ cs, NmOk c := fun c hc => by
  obtain ⟨k, hk⟩ := List.getElem?_of_mem hc
  have hO := lib_facts h hk
  refine ⟨by unfold maxLen; have := hO.name; omega, fun l hl => ?_⟩
  have := name_small (label_parts (hO.l l hl)).2
  unfold maxLen
  omega
theorem u8_inj {i j : Nat} (hi : i ≤ 3) (hj : j ≤ 3) (h : UInt8.ofNat (97 + i) = UInt8.ofNat (97 + j)) : i = j := by
  have a := u8_nat i hi
  have b := u8_nat j hj
  rw [h] at a
  omega
theorem first_ok (k : Nat) (h : k ≤ 3) : byteOk (UInt8.ofNat (97 + k)) = true := by
  have : k = 0 ∨ k = 1 ∨ k = 2 ∨ k = 3 := by omega
  rcases this with rfl | rfl | rfl | rfl <;> rfl
/-- A drawn library is valid. -/
theorem drawn_valid {cs : List CellD} (hn : 1 ≤ cs.length ∧ cs.length ≤ 4) (h : ∀ k c, cs[k]? = some c → CellV c k ∧ (c.shapes.length ≤ 3 ∧ c.labels.length ≤ 3 ∧ c.insts.length ≤ 3)) : libB cs = true := by
  have h1 : ∀ k c, cs[k]? = some c → okAt cs k = true := by
    intro k c hk
    have hkl := (List.getElem?_eq_some_iff.1 hk).1
    obtain ⟨hv, hl⟩ := h k c hk
    obtain ⟨r, hr, hb, h3⟩ := hv.name
    have hsz := congrArg List.length hr
    rw [byte_size, List.length_cons] at hsz
    rw [okAt_eq hk, Bool.and_eq_true]
    constructor
    · unfold cellB nameB badS badL badI
      have hs : (c.shapes.any fun x => !(shapeB x)) = false := by
        rw [List.any_eq_false]; intro x hx; simp [hv.s x hx]
      have hlb : (c.labels.any fun x => !(labelB x)) = false := by
        rw [List.any_eq_false]; intro x hx; simp [hv.l x hx]
      have hi : (c.insts.any fun x => !(instB x k)) = false := by
        rw [List.any_eq_false]; intro x hx; simp [hv.i x hx]
      rw [hs, hlb, hi, hr, List.all_cons, first_ok k (by omega), hb]
      simp only [Bool.and_true, Bool.not_false, Bool.true_and, Bool.and_eq_true, decide_eq_true_eq]
      omega
    · rw [Bool.not_eq_true', List.any_eq_false]
      intro d hd he
      obtain ⟨j, hj, rfl⟩ := List.mem_take_iff_getElem.1 hd
      have hjk : j < k := by omega
      have hjl : j < cs.length := by omega
      obtain ⟨hv2, -⟩ := h j cs[j] (List.getElem?_eq_getElem hjl)
      obtain ⟨r2, hr2, -, -⟩ := hv2.name
      have e : cs[j].name = c.name := by simpa [eqName] using he
      rw [e, hr] at hr2
      have := u8_inj (by omega) (by omega) (List.cons.inj hr2).1
      omega
  unfold libB okTo
  simp only [Bool.and_eq_true, decide_eq_true_eq, List.all_eq_true, List.mem_range]
  refine ⟨⟨by omega, by omega⟩, fun k hk => ?_⟩
  exact h1 k cs[k] (List.getElem?_eq_getElem hk)
theorem drawn_lib {ps : List (CellD × Sl3)} (hn : 1 ≤ ps.length ∧ ps.length ≤ 4) (h : ∀ k p, ps[k]? = some p → CellV p.1 k ∧ (p.1.shapes.length ≤ 3 ∧ p.1.labels.length ≤ 3 ∧ p.1.insts.length ≤ 3)) : libB (ps.map Prod.fst) = true := by
  refine drawn_valid (by simpa using hn) fun k c hk => ?_
  rw [List.getElem?_map] at hk
  obtain ⟨p, hp, rfl⟩ := Option.map_eq_some_iff.1 hk
  exact h k p hp

end Go.Proofs.YtcckamhokdodnaaGreatDoor
