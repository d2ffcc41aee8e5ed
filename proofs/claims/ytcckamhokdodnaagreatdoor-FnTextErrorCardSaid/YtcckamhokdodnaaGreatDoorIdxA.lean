/- Contracts: LayerIndex and OrientationIndex, of the program and of the reference. Conditions: the program's tables are laid. SplitColumns, of the program and of the reference. No conditions but the line's length. SplitColumns of the program. No conditions but the line's length. -/
import Derived.Test.YtcckamhokdodnaaGreatDoorNames
import Derived.Test.YtcckamhokdodnaaGreatDoorValT
import Derived.Test.YtcckamhokdodnaaGreatDoorShPar
import Derived.Test.YtcckamhokdodnaaGreatDoorNums
namespace Go.Proofs.YtcckamhokdodnaaGreatDoor
open Go.RowKit
open Go.Proofs

set_option maxHeartbeats 800000 in
theorem layI_impl (B : Nat) (s : ByteArray) (w : World) (hE : Env B w) : Calls Tryz.prog 98 #[.string s] w fun e w' => e = .returned (.int .i64 (Lib.idxOfS layN s)) ∧ w' = w := by
  have HE := Lib.hid hE
  clear hE
  go_enter Tryz.func98, Tryz.ntmps98
  go_wp2_with (go_at_call 35; refine (Tryz.slices_Index_string _ _ _ _ layN s _ (by decide) (by decide) (fun j hj => by rw [Nat.zero_add]; exact HE.out.lay j hj)).mono ?_; rintro e w1 ⟨rfl, hw1⟩; subst hw1)
  go_ret
  exact ⟨rfl, rfl⟩

set_option maxHeartbeats 800000 in
theorem oriI_impl (B : Nat) (s : ByteArray) (w : World) (hE : Env B w) : Calls Tryz.prog 13 #[.string s] w fun e w' => e = .returned (.int .i64 (Lib.idxOfS oriN s)) ∧ w' = w := by
  have HE := Lib.hid hE
  clear hE
  go_enter Tryz.func13, Tryz.ntmps13
  go_wp2_with (go_at_call 35; refine (Tryz.slices_Index_string _ _ _ _ oriN s _ (by decide) (by decide) (fun j hj => by rw [Nat.zero_add]; exact HE.out.ori j hj)).mono ?_; rintro e w1 ⟨rfl, hw1⟩; subst hw1)
  go_ret
  exact ⟨rfl, rfl⟩

end Go.Proofs.YtcckamhokdodnaaGreatDoor

namespace Go.Proofs.YtcckamhokdodnaaGreatDoor
open Go.RowKit

structure ColS where
  ws : List ByteArray
  cs : List Int
  f : Int
def blankAt (s : ByteArray) (i : Nat) : Bool := match s.data.toList[i]? with
  | some b => b == 32
  | none => true
def colStep (s : ByteArray) (i : Nat) (x : ColS) : ColS :=
  if blankAt s i = false ∧ x.f < 0 then ⟨x.ws, x.cs, i⟩
  else if blankAt s i = true ∧ 0 ≤ x.f then ⟨x.ws ++ [s.extract x.f.toNat i], x.cs ++ [x.f + 1], -1⟩
  else x
def colRun (s : ByteArray) : Nat → Nat → ColS → ColS
  | 0, _, x => x
  | k + 1, i, x => colRun s k (i + 1) (colStep s i x)
def colsT (s : ByteArray) : ColS := colRun s (s.size + 1) 0 ⟨[], [], -1⟩
theorem colRun_at (s : ByteArray) (i : Nat) (x : ColS) (h : i ≤ s.size) : colRun s (s.size + 1 - i) i x = colRun s (s.size + 1 - (i + 1)) (i + 1) (colStep s i x) := by
  obtain ⟨k, hk⟩ : ∃ k, s.size + 1 - i = k + 1 := ⟨s.size - i, by omega⟩
  rw [hk, show s.size + 1 - (i + 1) = k by omega]
  rfl
theorem blankAt_in {s : ByteArray} {i : Nat} (h : i < s.size) : blankAt s i = (s[i] == 32) := by
  have e : s.data.toList[i]? = some s[i] := by rw [List.getElem?_eq_getElem (by simpa using h)]; rfl
  unfold blankAt
  rw [e]
theorem blankAt_end {s : ByteArray} {i : Nat} (h : s.size ≤ i) : blankAt s i = true := by
  have e : s.data.toList[i]? = none := List.getElem?_eq_none (by simpa using h)
  unfold blankAt
  rw [e]
theorem step_open {s : ByteArray} {i : Nat} {x : ColS} (h : blankAt s i = false) (hf : x.f < 0) : colStep s i x = ⟨x.ws, x.cs, i⟩ := if_pos ⟨h, hf⟩
theorem step_word {s : ByteArray} {i : Nat} {x : ColS} (h : blankAt s i = true) (hf : 0 ≤ x.f) : colStep s i x = ⟨x.ws ++ [s.extract x.f.toNat i], x.cs ++ [x.f + 1], -1⟩ := by
  unfold colStep
  rw [if_neg (by rw [h]; simp), if_pos ⟨h, hf⟩]
theorem step_skip {s : ByteArray} {i : Nat} {x : ColS} (h : blankAt s i = true) (hf : x.f < 0) : colStep s i x = x := by
  unfold colStep
  rw [if_neg (by rw [h]; simp), if_neg (by omega)]
theorem step_on {s : ByteArray} {i : Nat} {x : ColS} (h : blankAt s i = false) (hf : 0 ≤ x.f) : colStep s i x = x := by
  unfold colStep
  rw [if_neg (by omega), if_neg (by rw [h]; simp)]

set_option maxHeartbeats 1600000 in
set_option maxRecDepth 100000 in
theorem cols_spec (s : ByteArray) (w : World) (hs : s.size ≤ 1048576) :
    Calls Tryz.prog 72 #[.string s] w fun e w' => ∃ v u, e = .returned (.tuple #[v, u]) ∧ SL w' w.heap.size v (colsT s).ws ∧ IL w' w.heap.size u (colsT s).cs ∧ Below w.heap.size w w' := by
  go_enter Tryz.func72, Tryz.ntmps72
  go_wp2
  go_loopw [4, 5, 6, 7] (fun wv cv fv iv wr => ∃ (i : Nat) (x : ColS), i ≤ s.size + 1 ∧ iv = .int .i64 i ∧ fv = .int .i64 x.f ∧ SL wr w.heap.size wv x.ws ∧ IL wr w.heap.size cv x.cs ∧ -1 ≤ x.f ∧ x.f < i ∧ 2 * x.ws.length ≤ i ∧ x.cs.length = x.ws.length ∧ (0 ≤ x.f → 2 * x.ws.length + 1 ≤ i) ∧ Hid (colRun s (s.size + 1 - i) i x = colsT s) ∧ Below w.heap.size w wr) (fun _ _ _ iv _ => s.size + 1 - (intOf iv).toNat)
  case atStart =>
    refine ⟨0, ⟨[], [], -1⟩, Nat.zero_le _, rfl, rfl, ?_, ?_, Int.le_refl _, by decide, Nat.le_refl _, rfl, by simp, Lib.hid rfl, ((Below.refl _ _).alloc (Nat.le_refl _) _).alloc (by simp) _⟩
    · exact SL.alloc (show SL (w.alloc (.cells #[] 9)) w.heap.size (.slice (some ⟨w.heap.size, 0, none⟩) 0 0) [] from World.ownsRow_lit (e := 9) (size := 1) w #[] 0 (Nat.le_refl _) (by simp [maxLen]) rfl) _
    · have h := World.ownsRow_lit (e := 2) (size := 1) (base := w.heap.size) (w.alloc (.cells #[] 9)) #[] 0 (by simp) (by simp [maxLen]) rfl
      rw [show (w.alloc (.cells #[] 9)).heap.size = w.heap.size + 1 by simp] at h
      exact h
  case round =>
    obtain ⟨i, ⟨ws, cs, f⟩, hi, rfl, rfl, hW, hC, hf1, hf2, hl1, hl2, hl3, Hrun, hb⟩ := hrel
    dsimp only at hW hC hf1 hf2 hl1 hl2 hl3
    have hi9 : i < 1048578 := by omega
    by_cases hle : i ≤ s.size
    · have Hnext := Lib.hid ((colRun_at s i ⟨ws, cs, f⟩ hle).symm.trans Hrun.out)
      by_cases hlt : i < s.size
      · have hbl := Lib.hid (blankAt_in hlt)
        have h35 : ¬ ((i : Int) = (s.size : Int)) := by omega
        have h36 : ((i : Int) == (s.size : Int)) = false := beq_eq_false_iff_ne.2 h35
        by_cases h32 : s[i] = 32
        · have Hbt := Lib.hid (hbl.out.trans (by rw [h32]))
          by_cases hf : 0 ≤ f
          · have hfi : f ≤ (i : Int) := by omega
            have Hst := Lib.hid (step_word (x := ⟨ws, cs, f⟩) Hbt.out hf)
            have hwl : ws.length ≤ 1000000 := by omega
            have hcl : cs.length ≤ 1000000 := by omega
            have hf9 : f < 1048578 := by omega
            have hh3 := hl3 hf
            go_wp2_with (first
              | (at_builtin; refine wpList_append_S rfl (.tmp 39) (.tmp 44) rfl w.heap.size _ ws rfl hW (s.extract f.toNat i) rfl hwl hb.size ?_; intro v2 w2 hW2 hg2 hb2; have hC2 : IL w2 w.heap.size _ cs := World.ownsRow.kept hC hg2 (own_types hC hW (by decide)); have hs2 := Nat.le_trans hb.size hb2.size)
              | (at_builtin; refine wpList_append_I rfl (.tmp 46) (.tmp 49) rfl w.heap.size _ cs rfl hC2 (f + 1) rfl hcl hs2 ?_; intro v3 w3 hC3 hg3 hb3; have hW3 : SL w3 w.heap.size _ (ws ++ [s.extract f.toNat i]) := World.ownsRow.kept hW2 hg3 (own_types hW2 hC2 (by decide))))
            go_roundw
            case rel => exact ⟨i + 1, ⟨ws ++ [s.extract f.toNat i], cs ++ [f + 1], -1⟩, by omega, by go_num, rfl, hW3, hC3, Int.le_refl _, by simp; omega, by simp; omega, by simp; omega, by simp, Lib.hid (by rw [← Hst.out]; exact Hnext.out), (hb.trans hb2).trans hb3⟩
            case measure => simp [intOf] <;> omega
          · have hfn : f < 0 := by omega
            have Hst := Lib.hid (step_skip (x := ⟨ws, cs, f⟩) Hbt.out hfn)
            go_wp2
            go_roundw
            case rel => exact ⟨i + 1, ⟨ws, cs, f⟩, by omega, by go_num, rfl, hW, hC, (by (try dsimp only); omega), (by (try dsimp only); omega), (by (try dsimp only); omega), hl2, (by (try dsimp only); omega), Lib.hid (by rw [← Hst.out]; exact Hnext.out), hb⟩
            case measure => simp [intOf] <;> omega
        · have Hbt : Hid (blankAt s i = false) := Lib.hid (hbl.out.trans (by simpa using h32))
          have h33 : ¬ ((s[i].toNat : Int) = 32) := fun h => h32 (UInt8.toNat_inj.1 (by have e : (32 : UInt8).toNat = 32 := rfl; rw [e]; omega))
          have h34 : ((s[i].toNat : Int) == 32) = false := by simpa using h33
          by_cases hf : 0 ≤ f
          · have hfn : ¬ f < 0 := by omega
            have Hst := Lib.hid (step_on (x := ⟨ws, cs, f⟩) Hbt.out hf)
            go_wp2
            go_roundw
            case rel => exact ⟨i + 1, ⟨ws, cs, f⟩, by omega, by go_num, rfl, hW, hC, (by (try dsimp only); omega), (by (try dsimp only); omega), (by (try dsimp only); omega), hl2, (by (try dsimp only); omega), Lib.hid (by rw [← Hst.out]; exact Hnext.out), hb⟩
            case measure => simp [intOf] <;> omega
          · have hfn : f < 0 := by omega
            have Hst := Lib.hid (step_open (x := ⟨ws, cs, f⟩) Hbt.out hfn)
            go_wp2
            go_roundw
            case rel => exact ⟨i + 1, ⟨ws, cs, i⟩, by omega, by go_num, rfl, hW, hC, (by (try dsimp only); omega), (by (try dsimp only); omega), (by (try dsimp only); omega), hl2, (by (try dsimp only); omega), Lib.hid (by rw [← Hst.out]; exact Hnext.out), hb⟩
            case measure => simp [intOf] <;> omega
      · obtain rfl : i = s.size := by omega
        have Hbt := Lib.hid (blankAt_end (Nat.le_refl s.size))
        by_cases hf : 0 ≤ f
        · have hfi : f ≤ (s.size : Int) := by omega
          have Hst := Lib.hid (step_word (x := ⟨ws, cs, f⟩) Hbt.out hf)
          have hwl : ws.length ≤ 1000000 := by omega
          have hcl : cs.length ≤ 1000000 := by omega
          have hf9 : f < 1048578 := by omega
          have hh3 := hl3 hf
          go_wp2_with (first
            | (at_builtin; refine wpList_append_S rfl (.tmp 39) (.tmp 44) rfl w.heap.size _ ws rfl hW (s.extract f.toNat s.size) rfl hwl hb.size ?_; intro v2 w2 hW2 hg2 hb2; have hC2 : IL w2 w.heap.size _ cs := World.ownsRow.kept hC hg2 (own_types hC hW (by decide)); have hs2 := Nat.le_trans hb.size hb2.size)
            | (at_builtin; refine wpList_append_I rfl (.tmp 46) (.tmp 49) rfl w.heap.size _ cs rfl hC2 (f + 1) rfl hcl hs2 ?_; intro v3 w3 hC3 hg3 hb3; have hW3 : SL w3 w.heap.size _ (ws ++ [s.extract f.toNat s.size]) := World.ownsRow.kept hW2 hg3 (own_types hW2 hC2 (by decide))))
          go_roundw
          case rel => exact ⟨s.size + 1, ⟨ws ++ [s.extract f.toNat s.size], cs ++ [f + 1], -1⟩, by omega, by go_num, rfl, hW3, hC3, Int.le_refl _, by simp; omega, by simp; omega, by simp; omega, by simp, Lib.hid (by rw [← Hst.out]; exact Hnext.out), (hb.trans hb2).trans hb3⟩
          case measure => simp [intOf] <;> omega
        · have hfn : f < 0 := by omega
          have Hst := Lib.hid (step_skip (x := ⟨ws, cs, f⟩) Hbt.out hfn)
          go_wp2
          go_roundw
          case rel => exact ⟨s.size + 1, ⟨ws, cs, f⟩, by omega, by go_num, rfl, hW, hC, (by (try dsimp only); omega), (by (try dsimp only); omega), (by (try dsimp only); omega), hl2, (by (try dsimp only); omega), Lib.hid (by rw [← Hst.out]; exact Hnext.out), hb⟩
          case measure => simp [intOf] <;> omega
    · obtain rfl : i = s.size + 1 := by omega
      have Hfin : Hid (⟨ws, cs, f⟩ = colsT s) := Lib.hid (by have h := Hrun.out; rw [Nat.sub_self] at h; exact h)
      go_wp2
      go_ret2
      exact ⟨_, _, rfl, by rw [← Hfin.out]; exact hW, by rw [← Hfin.out]; exact hC, hb⟩


end Go.Proofs.YtcckamhokdodnaaGreatDoor

namespace Go.Proofs.YtcckamhokdodnaaGreatDoor
open Go.RowKit

theorem word_end {s : ByteArray} {i j : Nat} {ws : List ByteArray} {cs : List Int} {z : ColS} (hj : j ≤ s.size) (hb : blankAt s j = true) (h : colRun s (s.size + 1 - j) j ⟨ws, cs, (i : Int)⟩ = z) :
    colRun s (s.size + 1 - j) j ⟨ws ++ [s.extract i j], cs ++ [(i : Int) + 1], -1⟩ = z := by
  rw [colRun_at s j _ hj, step_skip hb (show (-1 : Int) < 0 by decide)]
  rw [colRun_at s j _ hj, step_word hb (by simp)] at h
  exact h

set_option maxHeartbeats 1600000 in
set_option maxRecDepth 100000 in
theorem cols_impl (s : ByteArray) (w : World) (hs : s.size ≤ 1000000) :
    Calls Tryz.prog 60 #[.string s] w fun e w' => ∃ v u, e = .returned (.tuple #[v, u]) ∧ SL w' w.heap.size v (colsT s).ws ∧ IL w' w.heap.size u (colsT s).cs ∧ Below w.heap.size w w' := by
  go_enter Tryz.func60, Tryz.ntmps60
  go_wp2
  go_loopw [4, 5, 6] (fun wv cv iv wr => ∃ (i : Nat) (ws : List ByteArray) (cs : List Int), i ≤ s.size ∧ iv = .int .i64 i ∧ SL wr w.heap.size wv ws ∧ IL wr w.heap.size cv cs ∧ ws.length ≤ i ∧ cs.length = ws.length ∧ Hid (colRun s (s.size + 1 - i) i ⟨ws, cs, -1⟩ = colsT s) ∧ Below w.heap.size w wr) (fun _ _ iv _ => s.size - (intOf iv).toNat)
  case atStart =>
    refine ⟨0, [], [], Nat.zero_le _, rfl, ?_, ?_, Nat.le_refl _, rfl, Lib.hid rfl, ((Below.refl _ _).alloc (Nat.le_refl _) _).alloc (by simp) _⟩
    · exact SL.alloc (show SL (w.alloc (.cells #[] 9)) w.heap.size (.slice (some ⟨w.heap.size, 0, none⟩) 0 0) [] from World.ownsRow_lit (e := 9) (size := 1) w #[] 0 (Nat.le_refl _) (by simp [maxLen]) rfl) _
    · have h := World.ownsRow_lit (e := 2) (size := 1) (base := w.heap.size) (w.alloc (.cells #[] 9)) #[] 0 (by simp) (by simp [maxLen]) rfl
      rw [show (w.alloc (.cells #[] 9)).heap.size = w.heap.size + 1 by simp] at h
      exact h
  case round =>
    obtain ⟨i, ws, cs, hi, rfl, hW, hC, hl1, hl2, Hrun, hb⟩ := hrel
    have hi9 : i < 1048578 := by omega
    by_cases hlt : i < s.size
    · have hbl := Lib.hid (blankAt_in hlt)
      by_cases h32 : s[i] = 32
      · have Hn := Lib.hid (by have h := Hrun.out; rw [colRun_at s i _ hi, step_skip (hbl.out.trans (by rw [h32]; decide)) (show (-1 : Int) < 0 by decide)] at h; exact h)
        go_wp2
        exact ⟨⟨i + 1, ws, cs, by omega, by go_num, hW, hC, by omega, hl2, Hn, hb⟩, by simp [intOf] <;> omega⟩
      · have h33 : ¬ ((s[i].toNat : Int) = 32) := fun h => h32 (UInt8.toNat_inj.1 (by have e : (32 : UInt8).toNat = 32 := rfl; rw [e]; omega))
        have h34 : ((s[i].toNat : Int) == 32) = false := by simpa using h33
        have Hbf : Hid (blankAt s i = false) := Lib.hid (hbl.out.trans (by simpa using h32))
        go_wp2
        go_loopw [7] (fun jv wq => ∃ j : Nat, i ≤ j ∧ j ≤ s.size ∧ jv = .int .i64 j ∧ Hid (colRun s (s.size + 1 - j) j ⟨ws, cs, if j = i then -1 else (i : Int)⟩ = colsT s) ∧ wq = wr) (fun jv _ => s.size - (intOf jv).toNat)
        case atStart => exact ⟨i, Nat.le_refl _, hi, rfl, Lib.hid (by rw [if_pos rfl]; exact Hrun.out), rfl⟩
        case round =>
          obtain ⟨j, hij, hj, rfl, HJ, rfl⟩ := hrel
          have hj9 : j < 1048578 := by omega
          by_cases hjl : j < s.size
          · have hbj := Lib.hid (blankAt_in hjl)
            by_cases g32 : s[j] = 32
            · have hne : j ≠ i := by
                rintro rfl
                exact h32 g32
              have HW2 := Lib.hid (word_end (ws := ws) (cs := cs) (i := i) (z := colsT s) hj (hbj.out.trans (by rw [g32]; decide)) (by have h := HJ.out; rw [if_neg hne] at h; exact h))
              have hij2 : i < j := by omega
              have hwl : ws.length ≤ 1000000 := by omega
              have hcl : cs.length ≤ 1000000 := by omega
              go_wp2_with (first
                | (at_builtin; refine wpList_append_S rfl (.tmp 33) (.tmp 38) rfl w.heap.size _ ws rfl hW (s.extract i j) rfl hwl hb.size ?_; intro v2 w2 hW2 hg2 hb2; have hC2 : IL w2 w.heap.size _ cs := World.ownsRow.kept hC hg2 (own_types hC hW (by decide)); have hs2 := Nat.le_trans hb.size hb2.size)
                | (at_builtin; refine wpList_append_I rfl (.tmp 40) (.tmp 43) rfl w.heap.size _ cs rfl hC2 ((i : Int) + 1) rfl hcl hs2 ?_; intro v3 w3 hC3 hg3 hb3; have hW3 : SL w3 w.heap.size _ (ws ++ [s.extract i j]) := World.ownsRow.kept hW2 hg3 (own_types hW2 hC2 (by decide))))
              exact ⟨⟨j, ws ++ [s.extract i j], cs ++ [(i : Int) + 1], hj, rfl, hW3, hC3, by simp; omega, by simp; omega, HW2, (hb.trans hb2).trans hb3⟩, by simp [intOf]; omega⟩
            · have g33 : ¬ ((s[j].toNat : Int) = 32) := fun h => g32 (UInt8.toNat_inj.1 (by have e : (32 : UInt8).toNat = 32 := rfl; rw [e]; omega))
              have g34 : ((s[j].toNat : Int) == 32) = false := by simpa using g33
              have Hbg : Hid (blankAt s j = false) := Lib.hid (hbj.out.trans (by simpa using g32))
              have HJ2 : Hid (colRun s (s.size + 1 - (j + 1)) (j + 1) ⟨ws, cs, if j + 1 = i then -1 else (i : Int)⟩ = colsT s) := Lib.hid (by
                rw [if_neg (by omega)]
                have h := HJ.out
                rw [colRun_at s j _ hj] at h
                by_cases e : j = i
                · subst e
                  rw [if_pos rfl, step_open Hbg.out (show (-1 : Int) < 0 by decide)] at h
                  exact h
                · rw [if_neg e, step_on Hbg.out (by simp)] at h
                  exact h)
              go_wp2
              exact ⟨⟨j + 1, by omega, by omega, by go_num, HJ2, by first | rfl | trivial⟩, by simp [intOf] <;> omega⟩
          · obtain rfl : j = s.size := by omega
            have hne : s.size ≠ i := by omega
            have HW2 := Lib.hid (word_end (ws := ws) (cs := cs) (i := i) (z := colsT s) hj (blankAt_end (Nat.le_refl _)) (by have h := HJ.out; rw [if_neg hne] at h; exact h))
            have hij2 : i < s.size := by omega
            have hwl : ws.length ≤ 1000000 := by omega
            have hcl : cs.length ≤ 1000000 := by omega
            go_wp2_with (first
              | (at_builtin; refine wpList_append_S rfl (.tmp 33) (.tmp 38) rfl w.heap.size _ ws rfl hW (s.extract i s.size) rfl hwl hb.size ?_; intro v2 w2 hW2 hg2 hb2; have hC2 : IL w2 w.heap.size _ cs := World.ownsRow.kept hC hg2 (own_types hC hW (by decide)); have hs2 := Nat.le_trans hb.size hb2.size)
              | (at_builtin; refine wpList_append_I rfl (.tmp 40) (.tmp 43) rfl w.heap.size _ cs rfl hC2 ((i : Int) + 1) rfl hcl hs2 ?_; intro v3 w3 hC3 hg3 hb3; have hW3 : SL w3 w.heap.size _ (ws ++ [s.extract i s.size]) := World.ownsRow.kept hW2 hg3 (own_types hW2 hC2 (by decide))))
            exact ⟨⟨s.size, ws ++ [s.extract i s.size], cs ++ [(i : Int) + 1], hj, rfl, hW3, hC3, by simp; omega, by simp; omega, HW2, (hb.trans hb2).trans hb3⟩, by simp [intOf]; omega⟩
    · obtain rfl : i = s.size := by omega
      have Hfin : Hid (ws = (colsT s).ws ∧ cs = (colsT s).cs) := Lib.hid (by
        have h := Hrun.out
        rw [colRun_at s s.size _ (Nat.le_refl _), step_skip (blankAt_end (Nat.le_refl _)) (show (-1 : Int) < 0 by decide), Nat.sub_self] at h
        have h2 : (⟨ws, cs, -1⟩ : ColS) = colsT s := h
        rw [← h2]
        exact ⟨rfl, rfl⟩)
      go_wp2
      go_ret2
      exact ⟨_, _, rfl, by rw [← Hfin.out.1]; exact hW, by rw [← Hfin.out.2]; exact hC, hb⟩

end Go.Proofs.YtcckamhokdodnaaGreatDoor
