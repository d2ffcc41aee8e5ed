/- Contracts: l15DrawText, DrawParseLibrary. Condition: a well-formed source. -/
import Derived.Test.YtcckamhokdodnaaGreatDoorTextWN
import Derived.Test.YtcckamhokdodnaaGreatDoorFmtX
import Derived.Deep.RegionLaw
namespace Go.Proofs.YtcckamhokdodnaaGreatDoor
open Go.RowKit

/-- The first m strings of a row. -/
theorem SL.cut {w : World} {B : Nat} {g n c : Nat} {ss : List ByteArray} (h : SL w B (.slice (some ⟨g, 0, none⟩) n c) ss) (m : Nat) (hm : m ≤ ss.length) : SL w B (.slice (some ⟨g, 0, none⟩) m c) (ss.take m) := by
  rcases h.2 with ⟨h', _⟩ | ⟨g', cap, cur, h', hb, hg, hnc, hcm, hcs, htk⟩
  · cases h'
  · simp only [Value.slice.injEq, Option.some.injEq, Addr.mk.injEq, and_true] at h'
    obtain ⟨rfl, rfl, rfl⟩ := h'
    refine ⟨by simp, .inr ⟨_, _, cur, by rw [List.length_take, Nat.min_eq_left hm], hb, hg, by rw [List.length_take]; omega, hcm, hcs, ?_⟩⟩
    rw [List.length_take, Nat.min_eq_left hm, List.map_take, ← htk, List.take_take]
    congr 1
    omega
theorem SL.store {w : World} {B : Nat} {g n c : Nat} {ss : List ByteArray} (h : SL w B (.slice (some ⟨g, 0, none⟩) n c) ss) (i : Nat) (x : ByteArray) : SL (w.setCell ⟨g, i, none⟩ (.string x)) B (.slice (some ⟨g, 0, none⟩) n c) (ss.set i x) := by
  obtain ⟨_, _, e, _, _⟩ := h.form
  simp only [Value.slice.injEq] at e
  obtain ⟨_, rfl, _⟩ := e
  have h1 := (World.ownsRow.stored h i (.string x)).1
  unfold SL
  rw [List.length_set, List.map_set]
  exact h1
theorem SL.frozen {w : World} {B g n c : Nat} {ss : List ByteArray} (h : SL w B (.slice (some ⟨g, 0, none⟩) n c) ss) (j : Nat) : w.frozen? ⟨g, j, none⟩ = false := by
  obtain ⟨_, _, e, _, _⟩ := h.form
  simp only [Value.slice.injEq] at e
  obtain ⟨_, rfl, _⟩ := e
  exact World.ownsRow.frozenAt h j
theorem SL.base {w : World} {B g n c : Nat} {ss : List ByteArray} (h : SL w B (.slice (some ⟨g, 0, none⟩) n c) ss) : B ≤ g ∧ g < w.heap.size := World.ownsRow.lt h g rfl
theorem SL.fresh (w : World) {B : Nat} (hB : B ≤ w.heap.size) (x : ByteArray) : SL (w.alloc (.cells #[.string x] 9)) B (.slice (some ⟨w.heap.size, 0, none⟩) 1 1) [x] := World.ownsRow_lit w #[.string x] 1 hB (by simp [maxLen]) (by simp)

/-- A text under way: the source g, its lines in block lb, the words of one line. -/
structure TX (w W : World) (g lb nl cl : Nat) (wv : Value) (ls ws : List ByteArray) : Prop where
  dice : Dice W g
  ln : SL W w.heap.size (.slice (some ⟨lb, 0, none⟩) nl cl) ls
  wd : SL W (lb + 1) wv ws
  gro : w.grownBy W (some g)
  hg : g < w.heap.size
section
variable {w W W' : World} {g lb nl cl : Nat} {wv : Value} {ls ws : List ByteArray}
theorem TX.on (h : TX w W g lb nl cl wv ls ws) (hb : Below W.heap.size W W') : TX w W' g lb nl cl wv ls ws := ⟨h.dice.on hb, h.ln.on hb, h.wd.on hb, only_above h.gro (hb.mono h.gro.size), h.hg⟩
theorem TX.next (h : TX w W g lb nl cl wv ls ws) (hD : Dice W' g) (hG : W.grownBy W' (some g)) : TX w W' g lb nl cl wv ls ws := by
  have hgw := h.hg
  have hb := h.ln.base
  exact ⟨hD, own_keptG h.ln hG hgw, own_keptG h.wd hG (by omega), only_trans h.gro hG, hgw⟩
theorem TX.lines (h : TX w W g lb nl cl wv ls ws) (i : Nat) (x : ByteArray) : TX w (W.setCell ⟨lb, i, none⟩ (.string x)) g lb nl cl wv (ls.set i x) ws := by
  have hgw := h.hg
  have hb := h.ln.base
  obtain ⟨hd2, hg2⟩ := dg_set ⟨h.dice, h.gro⟩ (show g < lb by omega) hb.1 i (.string x)
  refine ⟨hd2, h.ln.store i x, World.ownsRow.kept h.wd (grownBy_put W lb i _) ?_, hg2, hgw⟩
  cases e : wv.ownBlock with
  | none => exact .inl rfl
  | some q =>
    right
    have := World.ownsRow.lt h.wd q e
    intro e2
    simp only [Option.some.injEq] at e2
    omega
theorem TX.words {wb n c : Nat} (h : TX w W g lb nl cl (.slice (some ⟨wb, 0, none⟩) n c) ls ws) (i : Nat) (x : ByteArray) : TX w (W.setCell ⟨wb, i, none⟩ (.string x)) g lb nl cl (.slice (some ⟨wb, 0, none⟩) n c) ls (ws.set i x) := by
  have hgw := h.hg
  have hb := h.ln.base
  have hb2 := h.wd.base
  obtain ⟨hd2, hg2⟩ := dg_set ⟨h.dice, h.gro⟩ (show g < wb by omega) (show w.heap.size ≤ wb by omega) i (.string x)
  exact ⟨hd2, World.ownsRow.kept h.ln (grownBy_put W wb i _) (.inr (by simp [Value.ownBlock]; omega)), h.wd.store i x, hg2, hgw⟩
theorem TX.cut {wb n c : Nat} (h : TX w W g lb nl cl (.slice (some ⟨wb, 0, none⟩) n c) ls ws) (m : Nat) (hm : m ≤ ws.length) : TX w W g lb nl cl (.slice (some ⟨wb, 0, none⟩) m c) ls (ws.take m) := ⟨h.dice, h.ln, h.wd.cut m hm, h.gro, h.hg⟩
theorem TX.fresh (h : TX w W g lb nl cl wv ls ws) (x : ByteArray) : TX w (W.alloc (.cells #[.string x] 9)) g lb nl cl (.slice (some ⟨W.heap.size, 0, none⟩) 1 1) ls [x] :=
  ⟨h.dice.alloc _, h.ln.alloc _, SL.fresh W h.ln.base.2 x, only_alloc h.gro _, h.hg⟩
/-- The words grow. -/
theorem TX.push {v' : Value} {ws' : List ByteArray} (h : TX w W g lb nl cl wv ls ws) (h1 : SL W' (lb + 1) v' ws') (hg : W.grownBy W' wv.ownBlock) (hb : Below (lb + 1) W W') : TX w W' g lb nl cl v' ls ws' := by
  have hgw := h.hg
  have hl := h.ln.base
  refine ⟨h.dice.grown hg fun q hq => ?_, ?_, h1, only_above h.gro (hb.mono (by omega)), hgw⟩
  · have := World.ownsRow.lt h.wd q hq
    omega
  · refine World.ownsRow.kept h.ln hg (.inr ?_)
    intro e
    have := World.ownsRow.lt h.wd lb e.symm
    omega
end
theorem SL.at_ {w : World} {B g n c : Nat} {ss : List ByteArray} (h : SL w B (.slice (some ⟨g, 0, none⟩) n c) ss) {a : Nat} (ha : a < ss.length) : ∃ y, ss[a]? = some y ∧ w.cell? ⟨g, a, none⟩ = some (.string y) := by
  obtain ⟨g', y, e, hy, -, -, ck⟩ := h.elem ha
  simp only [Option.some.injEq, Addr.mk.injEq, and_true] at e
  subst e
  exact ⟨y, hy, ck⟩
theorem Wd.set {ws : List ByteArray} (h : Wd ws) (i : Nat) {x : ByteArray} (hx : x.size ≤ 80) : Wd (ws.set i x) := ⟨by rw [List.length_set]; exact h.1, fun s hs => (List.mem_or_eq_of_mem_set hs).elim (h.2 s) fun e => e ▸ hx⟩
theorem Ld.set {ls : List ByteArray} (h : Ld ls) (i : Nat) {x : ByteArray} (hx : x.size ≤ 80) : Ld (ls.set i x) := ⟨by rw [List.length_set]; exact h.1, fun s hs => (List.mem_or_eq_of_mem_set hs).elim (h.2 s) fun e => e ▸ hx⟩
def strLen : Value → Nat
  | .string s => s.size
  | _ => 0
abbrev badWords : Array Value := #[.string ⟨#[99, 101, 108, 108]⟩, .string ⟨#[101, 110, 100]⟩, .string ⟨#[114, 101, 99, 116]⟩, .string ⟨#[120]⟩, .string ⟨#[109, 101, 116, 97, 108, 57]⟩, .string ⟨#[48, 49]⟩, .string ⟨#[45, 48]⟩, .string ⟨#[114, 52, 53]⟩, .string ⟨#[52, 49]⟩, .string ⟨#[97, 32, 98]⟩, .string ⟨#[]⟩, .string ⟨#[65, 98, 99]⟩]
theorem bad_get (k : Nat) (h : k < 12) : ∃ x : ByteArray, badWords[k]? = some (.string x) ∧ x.size ≤ 80 := by
  have hk : k = 0 ∨ k = 1 ∨ k = 2 ∨ k = 3 ∨ k = 4 ∨ k = 5 ∨ k = 6 ∨ k = 7 ∨ k = 8 ∨ k = 9 ∨ k = 10 ∨ k = 11 := by omega
  rcases hk with rfl | rfl | rfl | rfl | rfl | rfl | rfl | rfl | rfl | rfl | rfl | rfl <;> exact ⟨_, rfl, by decide⟩

set_option maxHeartbeats 6400000 in
set_option maxRecDepth 100000 in
/-- l15DrawText. -/
theorem drawText_any (g : Nat) (w : World) (hD : Dice w g) : Calls Tryz.prog 40 #[.pointer (some ⟨g, 0, none⟩)] w fun e w' => ∃ s : ByteArray, e = .returned (.string s) ∧ s.size ≤ 500000 ∧ Dice w' g ∧ w.grownBy w' (some g) := by
  have hg := hD.lt
  go_enter Tryz.func40, Tryz.ntmps40
  go_wp2_with fail
  refine (drawLib_any g _ hD).mono ?_
  rintro e w1 ⟨cv, ps, rfl, hn, hV, hC, -, hD1, hG1⟩
  obtain ⟨Ac, cc, rfl, -, -⟩ := hC.form
  have hok := drawn_lib hn hV
  obtain ⟨cs, hcs⟩ : ∃ cs, ps.map Prod.fst = cs := ⟨_, rfl⟩
  have hcl : 1 ≤ cs.length := by rw [← hcs, List.length_map]; exact hn.1
  rw [hcs] at hok
  have b2 := (Below.refl w1.heap.size w1).alloc (Nat.le_refl _) (.cells #[.slice Ac ps.length cc] 26)
  have L2 := Lib.hid (show LibV _ 0 (.slice Ac ps.length cc) cs from ⟨ps, hcs, (hC.less (Nat.zero_le _)).on b2⟩)
  have hD2 := hD1.on b2
  have hG2 := only_above (only_trans (only_refl w (some g)) hG1) (b2.mono hG1.size)
  obtain ⟨hl1, hLd, hW, h60⟩ := text_lines hok hcl
  have hL60 := Lib.hid h60
  have hts := text_size hok
  have HW := Lib.hid hW
  have HLd := Lib.hid hLd
  have hl340 := hLd.1
  clear hn hV hC hcs hD hD1 hG1 b2 hLd hW h60
  go_wp2_with fail
  refine (fmtLib_spec _ cs _ L2.out (lib_nm' hok)).mono ?_
  rintro e w3 ⟨he, hb3⟩
  rw [hok, if_pos rfl] at he
  obtain ⟨T, hT⟩ : ∃ T, txt (libT cs) = T := ⟨_, rfl⟩
  have he : e = .returned (.string T) := by rw [← hT]; exact he
  subst he
  rw [hT] at hl1 hts HLd HW hl340 hL60
  have hD3 := hD2.on hb3
  have hG3 := only_above hG2 (hb3.mono hG2.size)
  clear hb3 hD2 hG2 L2 hT hcl hok
  go_wp2_with fail
  refine (lines_spec T _ (by omega)).mono ?_
  rintro e w4 ⟨lv, rfl, hL4, hb4⟩
  obtain ⟨ls, hls⟩ : ∃ ls, linesT T = ls := ⟨_, rfl⟩
  rw [hls] at hl1 HLd HW hL4 hl340 hL60
  have hD4 := hD3.on hb4
  have hG4 := only_above hG3 (hb4.mono hG3.size)
  obtain ⟨AL, cl, rfl, -, -⟩ := hL4.form
  obtain ⟨lb, -, hAL, -⟩ := hL4.elem (k := 0) (by omega)
  subst hAL
  have hL4 := hL4.less hG3.size
  clear hb4 hD3 hG3 hls
  go_wp2_with fail
  refine (next_ge1 g (ls.length : Int) _ hD4 (by omega)).mono ?_
  rintro e w5 ⟨k0, rfl, hk0, hD5, hG5⟩
  obtain ⟨k, rfl⟩ : ∃ k : Nat, k0 = k := ⟨k0.toNat, by omega⟩
  have hk : k < ls.length := by omega
  have hL5 : SL w5 w.heap.size _ ls := own_keptG hL4 hG5 hg
  have hA5 := only_trans hG4 hG5
  obtain ⟨lb', x, hlb, hx, -, hlbl, q5⟩ := hL5.elem hk
  simp only [Option.some.injEq, Addr.mk.injEq, and_true] at hlb
  subst hlb
  obtain ⟨hw1, hw9, hw60⟩ := HW.out k x hx
  have hx80 := HLd.out.2 x (List.mem_of_getElem? hx)
  have hx60 := hL60.out k x hx
  have Hx := Lib.hid hx
  clear hL4 hD4 hG4 hG5 HW hx
  go_wp2_with fail
  refine (cols_spec x _ (by omega)).mono ?_
  rintro e w6 ⟨wv, uv, rfl, hW6, -, hb6⟩
  obtain ⟨ws, hws⟩ : ∃ ws, (colsT x).ws = ws := ⟨_, rfl⟩
  rw [hws] at hw1 hw9 hw60 hW6
  obtain ⟨AW, cw, rfl, -, -⟩ := hW6.form
  obtain ⟨wb, -, hAW, -⟩ := hW6.elem (k := 0) (by omega)
  subst hAW
  have X6 : TX w w6 g lb ls.length cl (.slice (some ⟨wb, 0, none⟩) ws.length cw) ls ws := ⟨hD5.on hb6, hL5.on hb6, hW6.less (by omega), only_above hA5 (hb6.mono hA5.size), hg⟩
  have hWd : Wd ws := ⟨by omega, fun s hs => Nat.le_trans (hw60 s hs) (by decide)⟩
  clear hL5 hW6 hb6 hD5 hA5 hws q5
  go_wp2_with fail
  refine (next_ge1 g (ws.length : Int) _ X6.dice (by omega)).mono ?_
  rintro e w7 ⟨a0, rfl, ha0, hD7, hG7⟩
  obtain ⟨a, rfl⟩ : ∃ a : Nat, a0 = a := ⟨a0.toNat, by omega⟩
  have ha : a < ws.length := by omega
  have X7 := X6.next hD7 hG7
  clear X6 hD7 hG7
  go_wp2_with fail
  refine (next_any g 10 _ X7.dice (by omega)).mono ?_
  rintro e w8 ⟨j, rfl, hj, hD8, hG8⟩
  have X8 := X7.next hD8 hG8
  clear X7 hD8 hG8
  have Ax := Lib.hid (HLd.out.2 x (List.mem_of_getElem? Hx.out))
  obtain ⟨y0, hy0⟩ : ∃ y, ws[0]? = some y := ⟨_, List.getElem?_eq_getElem (by omega)⟩
  have hy80 := Nat.le_trans (hw60 y0 (List.mem_of_getElem? hy0)) (show 60 ≤ 60 by decide)
  have Hy := Lib.hid hy0
  have HWd := Lib.hid hWd
  have hxs := hx80
  have hw60x := Lib.hid hx60
  have hcwl := X8.wd.base
  have hlbl2 := X8.ln.base
  clear hw60 hWd hy0
  by_cases h5 : j = 5
  · subst h5
    have et := Go.IntWalk.i64_in ((T.size : Int) + 1) (by omega)
    go_wp2_with fail
    refine (next_ge1 g ((T.size : Int) + 1) _ X8.dice (by omega)).mono ?_
    rintro e w9 ⟨m0, rfl, hm0, hD9, hG9⟩
    obtain ⟨m, rfl⟩ : ∃ m : Nat, m0 = m := ⟨m0.toNat, by omega⟩
    have hmT : m ≤ T.size := by omega
    have X9 := X8.next hD9 hG9
    clear X8 hD9 hG9
    go_wp2
    go_ret
    exact ⟨_, rfl, by simp; omega, X9.dice, X9.gro⟩
  have b5 : (j == 5) = false := by simpa using h5
  go_upto_block 0 with fail
  go_cut [7] from 38 to 109 (fun v wx => ∃ ls' ws' : List ByteArray, ls'.length = ls.length ∧ Hid (Wd ws') ∧ Hid (Ld ls') ∧ TX w wx g lb ls.length cl v ls' ws')
  case first =>
    by_cases h0 : j = 0
    · subst h0
      have K4 := Bk.new w8 9 badWords
      have O4 := X8.on (o_alloc w8 (.cells badWords 9))
      have hgi : some w8.heap.size ≠ some g := by have := X8.dice.lt; simp; omega
      clear X8
      go_wp2_with fail
      refine (next_any g 12 _ O4.dice (by omega)).mono ?_
      rintro e w9 ⟨z0, rfl, hz, hD9, hG9⟩
      obtain ⟨m, rfl⟩ : ∃ m : Nat, z0 = m := ⟨z0.toNat, by omega⟩
      obtain ⟨zn, hzn, hzs⟩ := bad_get m (by omega)
      have hm12 : m < 12 := by omega
      have K5 := ((K4.grown hG9 hgi).cell m).trans hzn
      have O5 := O4.next hD9 hG9
      obtain ⟨u9, -, nk⟩ := O5.wd.at_ ha
      have fk : w9.frozen? ⟨wb, a, none⟩ = false := O5.wd.frozen _
      have HO := Lib.hid (O5.words a zn)
      clear O4 O5 K4 hD9 hG9 hzn
      go_wp2_with fail
      go_meet
      exact ⟨ls, _, rfl, Lib.hid (HWd.out.set a hzs), HLd, HO.out⟩
    have b0 : (j == 0) = false := by simpa using h0
    by_cases h1 : j = 1
    · subst h1
      have ew := Go.IntWalk.i64_in ((ws.length : Int) - 1) (by omega)
      have hcwl2 : ws.length ≤ cw := by obtain ⟨_, _, e, h9, -⟩ := X8.wd.form; cases e; exact h9
      have hcwl3 : (ws.length : Int) - 1 ≤ (cw : Int) := by omega
      go_wp2_with fail
      go_meet
      exact ⟨ls, _, rfl, Lib.hid ⟨by rw [List.length_take]; have := HWd.out.1; omega, fun u hu => HWd.out.2 u (List.mem_of_mem_take hu)⟩, HLd, X8.cut (ws.length - 1) (by omega)⟩
    have b1 : (j == 1) = false := by simpa using h1
    by_cases h2 : j = 2
    · subst h2
      have HX := Lib.hid X8
      have hzW := X8.wd.base.2
      have hwl : ws.length ≤ 1000000 := by omega
      have hbz : lb + 1 ≤ w8.heap.size := by omega
      clear X8
      go_wp2_with (at_builtin; refine wpList_append_S rfl (.tmp 57) (.tmp 58) rfl (lb + 1) (.slice (some ⟨wb, 0, none⟩) ws.length cw) ws rfl HX.out.wd ⟨#[55]⟩ rfl hwl hbz ?_; intro v' w9 k1 k2 k3; have X9 := Lib.hid (HX.out.push k1 k2 k3); clear k1 k2 k3)
      go_meet
      exact ⟨ls, _, rfl, Lib.hid ⟨by rw [List.length_append, List.length_singleton]; omega, mem_snoc' HWd.out.2 (by decide)⟩, HLd, X9.out⟩
    have b2 : (j == 2) = false := by simpa using h2
    by_cases h3 : j = 3
    · subst h3
      obtain ⟨u9, hu9, nk⟩ := X8.wd.at_ (a := 0) (by omega)
      obtain rfl : u9 = y0 := Option.some.inj (hu9.symm.trans Hy.out)
      have fk : w8.frozen? ⟨wb, 0, none⟩ = false := X8.wd.frozen _
      have hw0 : 0 < ws.length := by omega
      have z1 : ¬ (9223372036854775807 < 2 + u9.size) := by omega
      have z2 : ¬ (9223372036854775807 < 2 + u9.size + 1) := by omega
      have HO := Lib.hid (X8.words 0 (⟨#[32, 32]⟩ ++ u9 ++ ⟨#[32]⟩))
      clear X8 hu9
      go_wp2_with fail
      go_meet
      exact ⟨ls, _, rfl, Lib.hid (HWd.out.set 0 (by rw [ByteArray.size_append, ByteArray.size_append]; have : (⟨#[32, 32]⟩ : ByteArray).size = 2 := rfl; have : (⟨#[32]⟩ : ByteArray).size = 1 := rfl; omega)), HLd, HO.out⟩
    have b3 : (j == 3) = false := by simpa using h3
    by_cases h4 : j = 4
    · subst h4
      obtain ⟨u9, hu9, nk⟩ := X8.ln.at_ hk
      obtain rfl : u9 = x := Option.some.inj (hu9.symm.trans Hx.out)
      have fk : w8.frozen? ⟨lb, k, none⟩ = false := X8.ln.frozen _
      have z1 : ¬ (9223372036854775807 < 2 + u9.size) := by omega
      have HO := Lib.hid ((X8.lines k (⟨#[35, 32]⟩ ++ u9)).fresh (⟨#[35, 32]⟩ ++ u9))
      rw [show (w8.setCell ⟨lb, k, none⟩ (.string (⟨#[35, 32]⟩ ++ u9))).heap.size = w8.heap.size by simp [World.setCell]] at HO
      have hz2 : (⟨#[35, 32]⟩ ++ u9 : ByteArray).size ≤ 80 := by rw [ByteArray.size_append]; have : (⟨#[35, 32]⟩ : ByteArray).size = 2 := rfl; have := hw60x.out; omega
      clear X8 hu9
      go_wp2_with fail
      go_meet
      exact ⟨_, [⟨#[35, 32]⟩ ++ u9], by rw [List.length_set], Lib.hid ⟨by simp, fun s hs => by rw [List.mem_singleton] at hs; rw [hs]; exact hz2⟩, Lib.hid (HLd.out.set k hz2), HO.out⟩
    have b4 : (j == 4) = false := by simpa using h4
    by_cases h6 : j = 6
    · subst h6
      go_wp2_with fail
      refine (next_ge1 g (ls.length : Int) _ X8.dice (by omega)).mono ?_
      rintro e w9 ⟨z0, rfl, hz, hD9, hG9⟩
      obtain ⟨m, rfl⟩ : ∃ m : Nat, z0 = m := ⟨z0.toNat, by omega⟩
      have hml : m < ls.length := by omega
      have X9 := X8.next hD9 hG9
      obtain ⟨u9, hu9, nk⟩ := X9.ln.at_ hml
      have fk : w9.frozen? ⟨lb, m, none⟩ = false := X9.ln.frozen _
      have HO := Lib.hid (X9.lines m ⟨#[]⟩)
      clear X8 X9 hD9 hG9 hu9
      go_wp2_with fail
      go_meet
      exact ⟨_, ws, by rw [List.length_set], HWd, Lib.hid (HLd.out.set m (by decide)), HO.out⟩
    have b6 : (j == 6) = false := by simpa using h6
    by_cases h7 : j = 7
    · subst h7
      go_wp2_with fail
      refine (next_any g 120 _ X8.dice (by omega)).mono ?_
      rintro e w9 ⟨z0, rfl, hz, hD9, hG9⟩
      have X9 := X8.next hD9 hG9
      have en := Go.IntWalk.i64_in (z0 - 60) (by omega)
      clear X8 hD9 hG9
      go_wp2_with fail
      refine (number_is (z0 - 60) _ (by omega)).mono ?_
      rintro e w10 ⟨zn, rfl, -, hzs, hb10⟩
      have X10 := X9.on hb10
      obtain ⟨u9, hu9, nk⟩ := X10.wd.at_ ha
      have fk : w10.frozen? ⟨wb, a, none⟩ = false := X10.wd.frozen _
      have HO := Lib.hid (X10.words a zn)
      clear X9 X10 hb10 hu9
      go_wp2_with fail
      go_meet
      exact ⟨ls, _, rfl, Lib.hid (HWd.out.set a (by omega)), HLd, HO.out⟩
    have b7 : (j == 7) = false := by simpa using h7
    go_wp2_with fail
    go_meet
    exact ⟨ls, ws, rfl, HWd, HLd, X8⟩
  obtain ⟨ls', ws', hll, HWd', HLd', X⟩ := hcut
  obtain ⟨w20, rfl⟩ : ∃ W : World, W = wc := ⟨_, rfl⟩
  obtain ⟨Aq, cq, rfl, hcq, hmq⟩ := X.wd.form
  have hwn := HWd'.out.1
  have hll2 : ls.length ≤ 340 := hl340
  have hcq9 : cq ≤ 9223372036854775807 := by unfold maxLen at hmq; omega
  clear X8
  go_wp2
  go_loopw [10, 11] (fun ov iv wr => ∃ (i : Nat) (o : ByteArray), i ≤ ls.length ∧ iv = .int .i64 i ∧ ov = .string o ∧ o.size ≤ 1400 * i ∧ TX w wr g lb ls.length cl (.slice Aq ws'.length cq) ls' ws') (fun _ iv _ => ls.length - (intOf iv).toNat)
  case atStart => exact ⟨0, ⟨#[]⟩, by omega, rfl, rfl, by decide, X⟩
  case round =>
    obtain ⟨i, o, hi, rfl, rfl, ho, Xr⟩ := hrel
    clear X
    by_cases hlt : i < ls.length
    · obtain ⟨u, hu, ck⟩ := Xr.ln.at_ (a := i) (by omega)
      have hu80 := HLd'.out.2 u (List.mem_of_getElem? hu)
      have hlti : (i : Int) < ls.length := by omega
      clear hu
      by_cases hik : i = k
      · subst hik
        go_wp2
        obtain ⟨wo, hwo⟩ : ∃ wo, wo = wr := ⟨_, rfl⟩
        subst hwo
        go_loopw [12, 13] (fun lv jv wx => ∃ (jj : Nat) (l : ByteArray), jj ≤ ws'.length ∧ jv = .int .i64 jj ∧ lv = .string l ∧ l.size ≤ 100 * jj ∧ TX w wx g lb ls.length cl (.slice Aq ws'.length cq) ls' ws') (fun _ jv _ => ws'.length - (intOf jv).toNat)
        case atStart => exact ⟨0, ⟨#[]⟩, by omega, rfl, rfl, by decide, Xr⟩
        case round =>
          obtain ⟨jj, l, hjj, rfl, rfl, hl, Xx⟩ := hrel
          clear Xr ck
          by_cases hjl : jj < ws'.length
          · obtain ⟨gw, y, rfl, hy, -, hgl, cy⟩ := Xx.wd.elem hjl
            have hy80 := HWd'.out.2 y (List.mem_of_getElem? hy)
            have z1 : ¬ (9223372036854775807 < l.size + 1) := by omega
            have z2 : ¬ (9223372036854775807 < l.size + y.size) := by omega
            have z3 : ¬ (9223372036854775807 < l.size + 1 + y.size) := by omega
            have zs : (⟨#[32]⟩ : ByteArray).size = 1 := rfl
            clear hy
            by_cases hj0 : 0 < jj
            · have hj0' : (jj : Int) > 0 := by omega
              go_wp2
              exact ⟨⟨jj + 1, _, by omega, by go_num, rfl, by simp only [ByteArray.size_append, zs]; omega, Xx⟩, by simp [intOf]; omega⟩
            · obtain rfl : jj = 0 := by omega
              go_wp2
              exact ⟨⟨1, _, by omega, by go_num, rfl, by simp only [ByteArray.size_append]; omega, Xx⟩, by simp [intOf]; omega⟩
          · have z1 : ¬ (9223372036854775807 < o.size + l.size) := by omega
            have z2 : ¬ (9223372036854775807 < o.size + l.size + 1) := by omega
            have zs : (⟨#[10]⟩ : ByteArray).size = 1 := rfl
            go_wp2
            exact ⟨⟨i + 1, _, by omega, by go_num, rfl, by simp only [ByteArray.size_append, zs]; omega, Xx⟩, by simp [intOf]; omega⟩
      · have bik : ((i : Int) == (k : Int)) = false := by simp; omega
        have z1 : ¬ (9223372036854775807 < o.size + u.size) := by omega
        have z2 : ¬ (9223372036854775807 < o.size + u.size + 1) := by omega
        have zs : (⟨#[10]⟩ : ByteArray).size = 1 := rfl
        go_wp2
        exact ⟨⟨i + 1, _, by omega, by go_num, rfl, by simp only [ByteArray.size_append, zs]; omega, Xr⟩, by simp [intOf]; omega⟩
    · have ho2 : o.size ≤ 476000 := by omega
      clear ho
      go_wp2_with fail
      refine (next_any g 60 _ Xr.dice (by omega)).mono ?_
      rintro e w21 ⟨z0, rfl, hz, hD9, hG9⟩
      have X9 := Xr.next hD9 hG9
      clear Xr hD9 hG9
      by_cases hz0 : z0 = 0
      · subst hz0
        go_wp2
        go_loopw [10] (fun ov wx => ∃ o : ByteArray, ov = .string o ∧ o.size ≤ 476000 ∧ TX w wx g lb ls.length cl (.slice Aq ws'.length cq) ls' ws') (fun ov _ => 13000 - strLen ov)
        case atStart => exact ⟨o, rfl, ho2, X9⟩
        case round =>
          obtain ⟨o9, rfl, ho9, Xx⟩ := hrel
          clear X9
          by_cases hs : o9.size < 13000
          · have hs' : (o9.size : Int) < 13000 := by omega
            have z1 : ¬ (9223372036854775807 < o9.size + o9.size) := by omega
            have z2 : ¬ (9223372036854775807 < o9.size + o9.size + 2) := by omega
            have zs : (⟨#[35, 10]⟩ : ByteArray).size = 2 := rfl
            go_wp2
            exact ⟨⟨_, rfl, by simp only [ByteArray.size_append, zs]; omega, Xx⟩, by simp only [strLen, ByteArray.size_append, zs]; omega⟩
          · go_wp2
            go_ret
            exact ⟨_, rfl, by omega, Xx.dice, Xx.gro⟩
      · have bz : (z0 == 0) = false := by simpa using hz0
        go_wp2
        go_ret
        exact ⟨_, rfl, by omega, X9.dice, X9.gro⟩

set_option maxHeartbeats 800000 in
set_option maxRecDepth 100000 in
/-- DrawParseLibrary. -/
theorem drawPar_any (A : Option Addr) (n c : Nat) (w : World) (hA : ArgB w A n) (hn : n ≤ 4096) : Calls Tryz.prog 18 #[.slice A n c] w fun e w' => ∃ s : ByteArray, e = .returned (.string s) ∧ s.size ≤ 500000 ∧ Below w.heap.size w w' := by
  go_enter Tryz.func18, Tryz.ntmps18
  go_wp2_with fail
  refine (from_any A n c _ hA hn).mono ?_
  rintro e w1 ⟨g, rfl, hg1, hD1, hb1⟩
  go_wp2_with fail
  refine (drawText_any g _ hD1).mono ?_
  rintro e w2 ⟨s, rfl, hs, hD2, hG2⟩
  go_wp2
  go_ret
  exact ⟨s, rfl, hs, hb1.grown hG2 hb1.size (fun k hk => by simp only [Option.some.injEq] at hk; omega)⟩

end Go.Proofs.YtcckamhokdodnaaGreatDoor
