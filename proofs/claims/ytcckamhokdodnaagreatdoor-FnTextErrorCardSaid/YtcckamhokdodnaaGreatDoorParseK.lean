/- What a text parses to, step by step. No conditions. ParseLibrary of the program: the plain law. Conditions: a text of at most 2^20 bytes; the tables and the errors' variables are laid; Go's own bytealg.MaxLen holds a number; what taking a line answers. ParseLibrary of the reference: the plain law. Conditions: a text of at most 2^20 bytes; what taking a line answers. -/
import Derived.Test.YtcckamhokdodnaaGreatDoorLineA
namespace Go.Proofs.YtcckamhokdodnaaGreatDoor
open Go.RowKit

theorem EnvP.more {B B' : Nat} {w : World} (h : EnvP B w) (hB : B ≤ B') : EnvP B' w := ⟨h.env.more hB, h.err, by have := h.far; omega⟩
theorem cutL_small : ∀ (l cur : List UInt8), ∀ x ∈ cutL cur l, x.length ≤ cur.length + l.length
  | [], cur => by
    intro x hx
    unfold cutL at hx
    split at hx
    · cases hx
    · simp only [List.mem_singleton] at hx
      subst hx; simp
  | b :: l, cur => by
    intro x hx
    unfold cutL at hx
    split at hx
    · simp only [List.mem_cons] at hx
      rcases hx with rfl | hx
      · simp
      · have := cutL_small l [] x hx
        simp at this ⊢; omega
    · have := cutL_small l (cur ++ [b]) x hx
      simp at this ⊢; omega
theorem lines_small (s : ByteArray) : ∀ x ∈ linesT s, x.size ≤ s.size := by
  intro x hx
  unfold linesT at hx
  obtain ⟨l, hl, rfl⟩ := List.mem_map.1 hx
  have := cutL_small s.data.toList [] l hl
  rw [List.length_nil, Nat.zero_add, Array.length_toList] at this
  show l.toArray.size ≤ s.data.size
  rw [List.size_toArray]
  exact this
theorem lines_count (s : ByteArray) : s.data.toList.count 10 ≤ (linesT s).length ∧ (linesT s).length ≤ s.data.toList.count 10 + 1 := by
  obtain ⟨xs, hxs, hne, hl⟩ := lines_split s
  have hk : Lib.countB s nlB = s.data.toList.count 10 := by
    rw [Lib.countB]
    exact Lib.count_one 10 _
  have hlen : xs.length = s.data.toList.count 10 + 1 := by rw [← hxs, ← hk]; exact Lib.splitB_all nlB (by decide) 0 _ s rfl
  rw [hl]
  split
  · rw [List.length_dropLast]; omega
  · omega
theorem run_step {ls : List ByteArray} {i : Nat} {s : ByteArray} {st : PS} {a b : Int} {st' : PS} (h : ls[i]? = some s) (hl : lineV st s = ⟨a, b, st'⟩) : runV (ls.drop i) i st = if a = 0 then runV (ls.drop (i + 1)) (i + 1) st' else ((a, (i : Int) + 1, b), st) := by
  have hi := (List.getElem?_eq_some_iff.1 h)
  rw [List.drop_eq_getElem_cons hi.1, hi.2, runV, hl]
theorem runV_end (ls : List ByteArray) (st : PS) : runV (ls.drop ls.length) ls.length st = ((0, 0, 0), st) := by rw [List.drop_length]; rfl
theorem run_ok : ∀ (ls : List ByteArray) (i : Nat) {st : PS}, StOk st → StOk (runV ls i st).2
  | [], _, _, h => h
  | s :: r, i, st, h => by
    rw [runV]
    split
    · exact run_ok r (i + 1) (h.line s)
    · exact h
/-- The bounds of a library that was parsed. -/
def LibOk (cs : List CellD) : Prop := cs.length ≤ 8 ∧ ∀ c ∈ cs, c.shapes.length ≤ 24 ∧ c.labels.length ≤ 8 ∧ c.insts.length ≤ 8
theorem parse_ok (size : Nat) (ls : List ByteArray) : LibOk (parseV size ls).1 := by
  have h0 : LibOk [] := ⟨by simp, by intro c hc; cases hc⟩
  have h := run_ok ls 0 StOk.zero
  unfold parseV
  split
  · exact h0
  · split
    · exact h0
    · split
      · exact h0
      · exact ⟨h.n, h.each⟩
theorem parse_big {size : Nat} {ls : List ByteArray} (h : 12000 < size ∨ 600 < ls.length) : parseV size ls = ([], (3, 0, 0)) := by
  unfold parseV
  rw [if_pos h]
section
variable {size : Nat} {ls : List ByteArray} (h : ¬ (12000 < size ∨ 600 < ls.length))
include h
theorem parse_bad {a b c : Int} {st : PS} (hr : runV ls 0 ps0 = ((a, b, c), st)) (ha : a ≠ 0) : parseV size ls = ([], (a, b, c)) := by
  unfold parseV
  rw [if_neg h, hr, if_pos ha]
theorem parse_open {st : PS} (hr : runV ls 0 ps0 = ((0, 0, 0), st)) (ho : st.op = true ∨ st.done = []) : parseV size ls = ([], (4, (ls.length : Int) + 1, 1)) := by
  unfold parseV
  rw [if_neg h, hr, if_neg (by simp), if_pos ho]
theorem parse_good {st : PS} (hr : runV ls 0 ps0 = ((0, 0, 0), st)) (ho : ¬ (st.op = true ∨ st.done = [])) : parseV size ls = (st.done, (0, 0, 0)) := by
  unfold parseV
  rw [if_neg h, hr, if_neg (by simp), if_neg ho]
end
/-- What ParseLibrary answers. -/
def ParseAns (s : ByteArray) (w : World) (e : Ending) (w' : World) : Prop :=
  ∃ v ps a b c, e = .returned (.tuple #[.agg #[v], .agg #[.int .i64 a, .int .i64 b, .int .i64 c]]) ∧ Hid (parseV s.size (linesT s) = (ps.map Prod.fst, (a, b, c))) ∧ CW w' w.heap.size v ps ∧ Apart3 (ps.map Prod.snd) ∧ Below w.heap.size w w'
theorem CW.nil (w : World) (B : Nat) : CW w B (.slice none 0 0) [] := ⟨FL.nil w B, fun k p h => by cases h⟩
theorem apart_nil3 : Apart3 [] := List.Pairwise.nil

end Go.Proofs.YtcckamhokdodnaaGreatDoor

namespace Go.Proofs.YtcckamhokdodnaaGreatDoor
open Go.RowKit

theorem put4 {N : Nat} {w W : World} (h : Below N w W) (a b c d : Value) : Below N w ((((W.setCell ⟨N, 0, none⟩ a).setCell ⟨N + 1, 0, none⟩ b).setCell ⟨N + 1, 1, none⟩ c).setCell ⟨N + 1, 2, none⟩ d) :=
  (((h.setCell (p := ⟨N, 0, none⟩) (Nat.le_refl _) a).setCell (p := ⟨N + 1, 0, none⟩) (Nat.le_succ _) b).setCell (p := ⟨N + 1, 1, none⟩) (Nat.le_succ _) c).setCell (p := ⟨N + 1, 2, none⟩) (Nat.le_succ _) d
theorem CW.put4 {B N : Nat} {W : World} {v : Value} {ps : List (CellD × Sl3)} (h : CW W B v ps) (hN : N + 1 < B) (a b c d : Value) : CW ((((W.setCell ⟨N, 0, none⟩ a).setCell ⟨N + 1, 0, none⟩ b).setCell ⟨N + 1, 1, none⟩ c).setCell ⟨N + 1, 2, none⟩ d) B v ps :=
  (((h.far (p := ⟨N, 0, none⟩) (Nat.lt_of_succ_lt hN) a).far (p := ⟨N + 1, 0, none⟩) hN b).far (p := ⟨N + 1, 1, none⟩) hN c).far (p := ⟨N + 1, 2, none⟩) hN d

set_option maxHeartbeats 3200000 in
set_option maxRecDepth 100000 in
theorem parse_impl (hT : TakesI) (s : ByteArray) (m : Int) (B : Nat) (w : World) (hs : s.size ≤ 1048576) (hE : EnvP B w) (hB : B ≤ w.heap.size) (hm : w.cell? ⟨2, 0, none⟩ = some (.int .i64 m)) :
    Calls Tryz.prog 11 #[.string s] w (ParseAns s w) := by
  have h0w : 2 < w.heap.size := by have := hE.far; omega
  have HE := Lib.hid hE
  clear hE
  have bb : Hid (Below w.heap.size w ((w.alloc (.cells #[.slice none 0 0] 26)).alloc (.cells #[.int .i64 0, .int .i64 0, .int .i64 0] 32))) := Lib.hid (((Below.refl _ _).alloc (Nat.le_refl _) _).alloc (by simp) _)
  have k2 : Hid (Bk ((w.alloc (.cells #[.slice none 0 0] 26)).alloc (.cells #[.int .i64 0, .int .i64 0, .int .i64 0] 32)) w.heap.size 26 #[.slice none 0 0]) := Lib.hid ((Bk.new w 26 #[.slice none 0 0]).alloc (.cells #[.int .i64 0, .int .i64 0, .int .i64 0] 32))
  have k3 : Hid (Bk ((w.alloc (.cells #[.slice none 0 0] 26)).alloc (.cells #[.int .i64 0, .int .i64 0, .int .i64 0] 32)) (w.heap.size + 1) 32 #[.int .i64 0, .int .i64 0, .int .i64 0]) := Lib.hid (by have h := Bk.new (w.alloc (.cells #[.slice none 0 0] 26)) 32 #[.int .i64 0, .int .i64 0, .int .i64 0]; simpa using h)
  obtain ⟨ls, hls⟩ : ∃ ls, linesT s = ls := ⟨_, rfl⟩
  obtain ⟨n, hn⟩ : ∃ n, ls.length = n := ⟨_, rfl⟩
  have hcnt := lines_count s
  have hlen := lines_len s
  have hsml := lines_small s
  rw [hls] at hcnt hlen hsml
  rw [hn] at hcnt hlen
  have Hls := Lib.hid hls
  have Hn := Lib.hid hn
  have Hsml := Lib.hid hsml
  clear hls hn hsml
  rcases Nat.lt_or_ge 12000 s.size with hbig | hbig
  · have Hv := Lib.hid (parse_big (size := s.size) (ls := ls) (.inl hbig))
    have hbi : (12000 : Int) < s.size := by omega
    go_enter Tryz.func11, Tryz.ntmps11
    go_wp2
    refine bodyPost_ret (v := .tuple #[.agg #[.slice none 0 0], .agg #[.int .i64 (3), .int .i64 (0), .int .i64 (0)]]) (by simp [results, Tryz.results11, go_sem, *]) rfl ?_
    exact ⟨.slice none 0 0, [], 3, 0, 0, rfl, Lib.hid (by rw [Hls.out]; exact Hv.out), CW.nil _ _, apart_nil3, ((Below.refl _ _).alloc (Nat.le_refl _) _).alloc (by simp) _⟩
  have hbi : ¬ (12000 : Int) < s.size := by omega
  obtain ⟨q, hq⟩ : ∃ q, s.data.toList.count 10 = q := ⟨_, rfl⟩
  rw [hq] at hcnt
  have Hq : Hid (Lib.countByte s.data.toList 10 = q) := Lib.hid hq
  clear hq
  rcases Nat.lt_or_ge 600 q with hq6 | hq6
  · have Hv := Lib.hid (parse_big (size := s.size) (ls := ls) (.inr (by rw [Hn.out]; omega)))
    have hqi : (600 : Int) < q := by omega
    go_enter Tryz.func11, Tryz.ntmps11
    go_wp2_with (go_at_call 30; refine (Tryz.strings_Count_one s 10 _).mono ?_; rintro e w9 ⟨rfl, hw9⟩; subst hw9; rw [Hq.out])
    refine bodyPost_ret (v := .tuple #[.agg #[.slice none 0 0], .agg #[.int .i64 (3), .int .i64 (0), .int .i64 (0)]]) (by simp [results, Tryz.results11, go_sem, *]) rfl ?_
    exact ⟨.slice none 0 0, [], 3, 0, 0, rfl, Lib.hid (by rw [Hls.out]; exact Hv.out), CW.nil _ _, apart_nil3, ((Below.refl _ _).alloc (Nat.le_refl _) _).alloc (by simp) _⟩
  have hqi : ¬ (600 : Int) < q := by omega
  go_enter Tryz.func11, Tryz.ntmps11
  go_wp2_with (first | (go_at_call 30; refine (Tryz.strings_Count_one s 10 _).mono ?_; rintro e w9 ⟨rfl, hw9⟩; subst hw9; rw [Hq.out]) | fail)
  generalize ((w.alloc (.cells #[.slice none 0 0] 26)).alloc (.cells #[.int .i64 0, .int .i64 0, .int .i64 0] 32)) = w1 at *
  have hm1 : w1.cell? ⟨2, 0, none⟩ = some (.int .i64 m) := (bb.out.cell (p := ⟨2, 0, none⟩) h0w).trans hm
  refine (lines_impl s m _ hs hm1).mono ?_
  rintro e w2 ⟨v, rfl, hL, hb2⟩
  rw [Hls.out] at hL
  obtain ⟨A, c, e1, -, -⟩ := hL.form
  rw [Hn.out] at e1
  subst e1
  have HL := Lib.hid hL
  have k22 := Lib.hid (k2.out.on hb2)
  have k32 := Lib.hid (k3.out.on hb2)
  have BB2 := Lib.hid (bb.out.trans (hb2.mono bb.out.size))
  have hz : w.heap.size ≤ w2.heap.size := BB2.out.size
  have HE2 : Hid (EnvP w2.heap.size w2) := Lib.hid ((HE.out.on (BB2.out.mono hB)).more (Nat.le_trans hB hz))
  have hz3 := k32.out.lt
  clear hL hb2 bb k2 k3 hm hm1
  rcases Nat.lt_or_ge 600 n with hn6 | hn6
  · have K2 := k22
    have K3 := k32
    have Hv := Lib.hid (parse_big (size := s.size) (ls := ls) (.inr (by rw [Hn.out]; exact hn6)))
    have hni : (600 : Int) < n := by omega
    have c20 : w2.cell? ⟨w.heap.size, 0, none⟩ = some (.slice none 0 0) := K2.out.cell 0
    have c30 : w2.cell? ⟨w.heap.size + 1, 0, none⟩ = some (.int .i64 0) := K3.out.cell 0
    have c31 : w2.cell? ⟨w.heap.size + 1, 1, none⟩ = some (.int .i64 0) := K3.out.cell 1
    have c32 : w2.cell? ⟨w.heap.size + 1, 2, none⟩ = some (.int .i64 0) := K3.out.cell 2
    have f2 : w2.frozen? ⟨w.heap.size, 0, none⟩ = false := K2.out.frozen 0
    have f30 : w2.frozen? ⟨w.heap.size + 1, 0, none⟩ = false := K3.out.frozen 0
    have f31 : w2.frozen? ⟨w.heap.size + 1, 1, none⟩ = false := K3.out.frozen 1
    have f32 : w2.frozen? ⟨w.heap.size + 1, 2, none⟩ = false := K3.out.frozen 2
    have hz2 : w.heap.size < w2.heap.size := K2.out.lt
    have hz3 : w.heap.size + 1 < w2.heap.size := K3.out.lt
    go_wp2
    refine bodyPost_ret (v := .tuple #[.agg #[.slice none 0 0], .agg #[.int .i64 (3), .int .i64 (0), .int .i64 (0)]]) (by simp [results, Tryz.results11, go_sem, *]) rfl ?_
    exact ⟨.slice none 0 0, [], 3, 0, 0, rfl, Lib.hid (by rw [Hls.out]; exact Hv.out), CW.nil _ _, apart_nil3, put4 BB2.out _ _ _ _⟩
  have Hok : Hid (¬ (12000 < s.size ∨ 600 < ls.length)) := Lib.hid (by rw [Hn.out]; omega)
  have hni : ¬ (600 : Int) < n := by omega
  have P0 : PMi (w2.alloc (.cells #[.slice none 0 0, .string ⟨#[]⟩, .slice none 0 0, .slice none 0 0, .slice none 0 0, .bool false] 83)) w2.heap.size w2.heap.size ps0 (.slice none 0 0) [] nil3 := ⟨Bk.new _ _ _, rfl, CW.nil _ _, C3.nil _ _ _, apart_nil3, Nat.le_refl _⟩
  have HR0 : Hid (runV (ls.drop 0) 0 ps0 = runV ls 0 ps0) := Lib.hid rfl
  have hnb : n < 1048577 := by omega
  go_wp2
  go_loopw [31] (fun iv wr => ∃ (i : Nat) (st : PS) (cv : Value) (ps : List (CellD × Sl3)) (u : Sl3), i ≤ n ∧ iv = .int .i64 i ∧ PMi wr w2.heap.size w2.heap.size st cv ps u ∧ StOk st ∧ Hid (runV (ls.drop i) i st = runV ls 0 ps0) ∧ Below w2.heap.size w2 wr) (fun iv _ => n - (intOf iv).toNat)
  case atStart => exact ⟨0, ps0, .slice none 0 0, [], nil3, Nat.zero_le _, rfl, P0, StOk.zero, HR0, (Below.refl _ _).alloc (Nat.le_refl _) _⟩
  case round =>
    obtain ⟨i, st, cv, ps, u, hi, rfl, hPr, hOr, Hrun, hb⟩ := hrel
    have HPr := Lib.hid hPr
    have HOr := Lib.hid hOr
    have Hbr := Lib.hid hb
    have HLr := Lib.hid (HL.out.on hb)
    clear hPr hOr P0
    by_cases hlt : i < n
    · obtain ⟨gl, x, rfl, hx, -, hgl, cwl⟩ := HLr.out.elem (k := i) (by rw [Hn.out]; exact hlt)
      have Hx := Lib.hid hx
      have hxs : x.size ≤ 1000000 := Nat.le_trans (Hsml.out x (List.mem_of_getElem? hx)) (by omega)
      have HEr := Lib.hid (HE2.out.on Hbr.out)
      clear hx
      go_wp2_with fail
      refine (line_impl hT x w2.heap.size w2.heap.size st cv ps u _ HPr.out HOr.out HEr.out hxs).mono ?_
      rintro e w5 ⟨a, b, st', cv', ps', u', rfl, Hl, HP', hb5⟩
      have Hb5 := Lib.hid (Hbr.out.trans hb5)
      have HP5 := Lib.hid HP'
      clear HP' hb5
      by_cases ha : a = 0
      · subst ha
        have HO5 := Lib.hid (show StOk st' by have h := HOr.out.line x; rwa [Hl.out] at h)
        have Hr5 : Hid (runV (ls.drop (i + 1)) (i + 1) st' = runV ls 0 ps0) := Lib.hid (by have h := run_step Hx.out Hl.out; rw [if_pos rfl] at h; rw [← h]; exact Hrun.out)
        go_wp2
        go_roundw
        case rel => exact ⟨i + 1, st', cv', ps', u', hlt, by go_num, HP5.out, HO5.out, Hr5, Hb5.out⟩
        case measure => simp [intOf] <;> omega
      · have ha1 : (a == 0) = false := beq_eq_false_iff_ne.2 ha
        have Hr5 : Hid (runV ls 0 ps0 = ((a, (i : Int) + 1, b), st)) := Lib.hid (by have h := run_step Hx.out Hl.out; rw [if_neg ha] at h; rw [← h]; exact Hrun.out.symm)
        have Hv := Lib.hid (parse_bad Hok.out Hr5.out ha)
        have BBr := Lib.hid (BB2.out.trans (Hb5.out.mono hz))
        have K2 := Lib.hid (k22.out.on Hb5.out)
        have K3 := Lib.hid (k32.out.on Hb5.out)
        have c20 : w5.cell? ⟨w.heap.size, 0, none⟩ = some (.slice none 0 0) := K2.out.cell 0
        have c30 : w5.cell? ⟨w.heap.size + 1, 0, none⟩ = some (.int .i64 0) := K3.out.cell 0
        have c31 : w5.cell? ⟨w.heap.size + 1, 1, none⟩ = some (.int .i64 0) := K3.out.cell 1
        have c32 : w5.cell? ⟨w.heap.size + 1, 2, none⟩ = some (.int .i64 0) := K3.out.cell 2
        have f2 : w5.frozen? ⟨w.heap.size, 0, none⟩ = false := K2.out.frozen 0
        have f30 : w5.frozen? ⟨w.heap.size + 1, 0, none⟩ = false := K3.out.frozen 0
        have f31 : w5.frozen? ⟨w.heap.size + 1, 1, none⟩ = false := K3.out.frozen 1
        have f32 : w5.frozen? ⟨w.heap.size + 1, 2, none⟩ = false := K3.out.frozen 2
        have hz2 : w.heap.size < w5.heap.size := K2.out.lt
        have hz3 : w.heap.size + 1 < w5.heap.size := K3.out.lt
        go_wp2
        refine bodyPost_ret (v := .tuple #[.agg #[.slice none 0 0], .agg #[.int .i64 (a), .int .i64 ((i : Int) + 1), .int .i64 (b)]]) (by simp [results, Tryz.results11, go_sem, *]) rfl ?_
        exact ⟨.slice none 0 0, [], a, (i : Int) + 1, b, rfl, Lib.hid (by rw [Hls.out]; exact Hv.out), CW.nil _ _, apart_nil3, put4 (BBr.out) _ _ _ _⟩
    · obtain rfl : n = i := by omega
      have Hr5 : Hid (runV ls 0 ps0 = ((0, 0, 0), st)) := Lib.hid (by rw [← Hrun.out]; have h := runV_end ls st; rw [Hn.out] at h; exact h)
      obtain ⟨A9, c9, ecv, -, -⟩ := HPr.out.lib.form
      rw [HPr.out.len] at ecv
      subst ecv
      have BBr := Lib.hid (BB2.out.trans (Hbr.out.mono hz))
      have K2 := Lib.hid (k22.out.on Hbr.out)
      have K3 := Lib.hid (k32.out.on Hbr.out)
      have p0 : wr.cell? ⟨w2.heap.size, 0, none⟩ = some (.slice A9 st.done.length c9) := HPr.out.bk.cell 0
      have p5 : wr.cell? ⟨w2.heap.size, 5, none⟩ = some (.bool st.op) := HPr.out.bk.cell 5
      have hgp := HPr.out.bk.lt
      have c20 : wr.cell? ⟨w.heap.size, 0, none⟩ = some (.slice none 0 0) := K2.out.cell 0
      have c30 : wr.cell? ⟨w.heap.size + 1, 0, none⟩ = some (.int .i64 0) := K3.out.cell 0
      have c31 : wr.cell? ⟨w.heap.size + 1, 1, none⟩ = some (.int .i64 0) := K3.out.cell 1
      have c32 : wr.cell? ⟨w.heap.size + 1, 2, none⟩ = some (.int .i64 0) := K3.out.cell 2
      have f2 : wr.frozen? ⟨w.heap.size, 0, none⟩ = false := K2.out.frozen 0
      have f30 : wr.frozen? ⟨w.heap.size + 1, 0, none⟩ = false := K3.out.frozen 0
      have f31 : wr.frozen? ⟨w.heap.size + 1, 1, none⟩ = false := K3.out.frozen 1
      have f32 : wr.frozen? ⟨w.heap.size + 1, 2, none⟩ = false := K3.out.frozen 2
      have hz2 : w.heap.size < wr.heap.size := K2.out.lt
      have hz3 : w.heap.size + 1 < wr.heap.size := K3.out.lt
      cases hop : st.op with
      | true =>
        have Hv := Lib.hid (parse_open Hok.out Hr5.out (.inl hop))
        rw [hop] at p5
        rw [Hn.out] at Hv
        go_wp2
        refine bodyPost_ret (v := .tuple #[.agg #[.slice none 0 0], .agg #[.int .i64 (4), .int .i64 ((n : Int) + 1), .int .i64 (1)]]) (by simp [results, Tryz.results11, go_sem, *]) rfl ?_
        exact ⟨.slice none 0 0, [], 4, (n : Int) + 1, 1, rfl, Lib.hid (by rw [Hls.out]; exact Hv.out), CW.nil _ _, apart_nil3, put4 (BBr.out) _ _ _ _⟩
      | false =>
        rw [hop] at p5
        by_cases h0 : st.done.length = 0
        · have Hv := Lib.hid (parse_open Hok.out Hr5.out (.inr (List.eq_nil_of_length_eq_zero h0)))
          rw [Hn.out] at Hv
          have h0i : (st.done.length : Int) = 0 := by omega
          clear h0
          go_wp2
          refine bodyPost_ret (v := .tuple #[.agg #[.slice none 0 0], .agg #[.int .i64 (4), .int .i64 ((n : Int) + 1), .int .i64 (1)]]) (by simp [results, Tryz.results11, go_sem, *]) rfl ?_
          exact ⟨.slice none 0 0, [], 4, (n : Int) + 1, 1, rfl, Lib.hid (by rw [Hls.out]; exact Hv.out), CW.nil _ _, apart_nil3, put4 (BBr.out) _ _ _ _⟩
        · have Hv := Lib.hid (parse_good Hok.out Hr5.out (by rintro (h | h); rw [hop] at h; cases h; rw [h] at h0; exact h0 rfl))
          have h0i : ¬ (st.done.length : Int) = 0 := by omega
          have h0j : ((st.done.length : Int) == 0) = false := beq_eq_false_iff_ne.2 h0i
          clear h0
          go_wp2
          refine bodyPost_ret (v := .tuple #[.agg #[.slice A9 st.done.length c9], .agg #[.int .i64 (0), .int .i64 (0), .int .i64 (0)]]) (by simp [results, Tryz.results11, go_sem, *]) rfl ?_
          exact ⟨.slice A9 st.done.length c9, ps, 0, 0, 0, rfl, Lib.hid (by rw [Hls.out]; exact by rw [HPr.out.eq]; exact Hv.out), (HPr.out.lib.put4 (by omega) _ _ _ _).less hz, apart_done HPr.out.apart, put4 (BBr.out) _ _ _ _⟩

end Go.Proofs.YtcckamhokdodnaaGreatDoor

namespace Go.Proofs.YtcckamhokdodnaaGreatDoor
open Go.RowKit

end Go.Proofs.YtcckamhokdodnaaGreatDoor
