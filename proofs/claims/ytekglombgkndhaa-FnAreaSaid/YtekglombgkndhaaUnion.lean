/- Contracts: the program's unionAll, RectsOverlap, meet. No conditions of unionAll; of meet: valid rectangles. -/
import Derived.Test.YtekglombgkndhaaCombA
import Derived.Test.YtekglombgkndhaaSets
import Derived.Test.YtekglombgkndhaaCovA
import Derived.Test.YtekglombgkndhaaCanonA
namespace Go.Proofs.Ytekglombgkndhaa
open Go.RowKit

/-- A store into a set of the program keeps the lists. -/
theorem RLL.put_other {w w' : World} {g B : Nat} {v : Value} {rss : List (List Rc)} {G : Gr} (h : RLL w B v rss) (hG : GB w g 62 G) (hg : w.grownBy w' (some g)) : RLL w' B v rss := by
  obtain ⟨vs, h1, h2, h3⟩ := h
  obtain ⟨cs, hb, _⟩ := hG
  refine ⟨vs, World.ownsRow.kept h1 hg (.inr fun he => hb.apart' h1 (by decide) he.symm), h2, fun k u rs hu hr => ?_⟩
  have h4 := h3 k u rs hu hr
  exact World.ownsRow.kept h4 hg (.inr fun he => hb.apart' h4 (by decide) he.symm)
theorem RL.put_other {w w' : World} {g B : Nat} {v : Value} {rs : List Rc} {G : Gr} (h : RL w B v rs) (hG : GB w g 62 G) (hg : w.grownBy w' (some g)) : RL w' B v rs := by
  obtain ⟨cs, hb, _⟩ := hG
  exact World.ownsRow.kept h hg (.inr fun he => hb.apart' h (by decide) he.symm)
/-- Two lists as the arguments of a variadic call. -/
theorem RLL.two {w : World} {u1 u2 : Value} {a b : List Rc} (h1 : RL w 0 u1 a) (h2 : RL w 0 u2 b) : RLL (w.alloc (.cells #[u1, u2] 24)) 0 (.slice (some ⟨w.heap.size, 0, none⟩) 2 2) [a, b] := by
  refine ⟨[u1, u2], World.ownsRow_lit w #[u1, u2] 2 (Nat.zero_le _) (by simp [maxLen]) rfl, rfl, fun k u rs hu hr => ?_⟩
  match k with
  | 0 =>
    simp at hu hr
    subst hu hr
    exact World.ownsRow.alloc h1 _
  | 1 =>
    simp at hu hr
    subst hu hr
    exact World.ownsRow.alloc h2 _
  | k + 2 => simp at hu
theorem flat_step {rss : List (List Rc)} {k : Nat} {rs : List Rc} (h : rss[k]? = some rs) : (rss.take (k + 1)).flatten = (rss.take k).flatten ++ rs := by
  rw [List.take_add_one, h, Option.toList, List.flatten_append, List.flatten_cons, List.flatten_nil, List.append_nil]
theorem cells_more {qs rs : List Rc} {j : Nat} {r : Rc} (h : rs[j]? = some r) : orR (cellsG (qs ++ rs.take j)) r = cellsG (qs ++ rs.take (j + 1)) := by
  rw [List.take_add_one, h, Option.toList, ← List.append_assoc, cellsG_snoc]

set_option maxHeartbeats 800000 in
set_option maxRecDepth 100000 in
/-- unionAll. -/
theorem unionAll_any (v : Value) (rss : List (List Rc)) (w : World) (hv : RLL w 0 v rss) : Calls Try.prog 47 #[v] w fun e w' => ∃ u, e = .returned u ∧ RL w' w.heap.size u (canon (cellsG rss.flatten)) ∧ Below w.heap.size w w' := by
  obtain ⟨A, c, rfl, hc, hm⟩ := hv.form
  have hm' : rss.length ≤ 9223372036854775807 := by unfold maxLen at hm; omega
  have g0 := GB.zero w 62
  have t0 : Below w.heap.size w (w.alloc (.cells Try.zeroCells62 62)) := (Below.refl _ _).alloc (Nat.le_refl _) _
  replace hv := hv.alloc (.cells Try.zeroCells62 62)
  go_enter Try.func47, Try.ntmps47
  go_wp2
  go_loopw [12] (fun iv wr => ∃ k : Nat, k ≤ rss.length ∧ iv = .int .i64 k ∧ GB wr w.heap.size 62 (cellsG (rss.take k).flatten) ∧ RLL wr 0 (.slice A rss.length c) rss ∧ Below w.heap.size w wr) (fun iv _ => rss.length - (intOf iv).toNat)
  case atStart => exact ⟨0, Nat.zero_le _, rfl, g0, hv, t0⟩
  case round =>
    obtain ⟨k, hk, rfl, hG, hL, hb⟩ := hrel
    clear g0 hv t0
    by_cases hlt : k < rss.length
    · obtain ⟨g, u, rs, rfl, hr, hg, f0, hR⟩ := hL.elem hlt
      obtain ⟨A2, c2, rfl, hc2, hm2, -⟩ := hR.form
      have hm2' : rs.length ≤ 9223372036854775807 := by unfold maxLen at hm2; omega
      have Hf := Lib.hid (flat_step hr)
      clear hr
      go_wp2
      go_loopw [18] (fun jv wi => ∃ j : Nat, j ≤ rs.length ∧ jv = .int .i64 j ∧ GB wi w.heap.size 62 (cellsG ((rss.take k).flatten ++ rs.take j)) ∧ RLL wi 0 (.slice (some ⟨g, 0, none⟩) rss.length c) rss ∧ RL wi 0 (.slice A2 rs.length c2) rs ∧ Below w.heap.size w wi) (fun jv _ => rs.length - (intOf jv).toNat)
      case atStart => exact ⟨0, Nat.zero_le _, rfl, by rw [List.take_zero, List.append_nil]; exact hG, hL, hR, hb⟩
      case round =>
        obtain ⟨j, hj, rfl, hG1, hL1, hR1, hb1⟩ := hrel
        clear hG hL hR hb f0
        by_cases hltj : j < rs.length
        · obtain ⟨g', x0, y0, x1, y1, rfl, hr, hg', e0, e1, e2, e3⟩ := hR1.elem hltj
          have Hr := Lib.hid (cells_more (qs := (rss.take k).flatten) hr)
          clear hr
          have gA := hG1.alloc (.cells #[.int .i64 x0, .int .i64 y0, .int .i64 x1, .int .i64 y1] 44)
          have lA := hL1.alloc (.cells #[.int .i64 x0, .int .i64 y0, .int .i64 x1, .int .i64 y1] 44)
          have rA := RL.alloc hR1 (.cells #[.int .i64 x0, .int .i64 y0, .int .i64 x1, .int .i64 y1] 44)
          have tA := hb1.alloc hb1.size (.cells #[.int .i64 x0, .int .i64 y0, .int .i64 x1, .int .i64 y1] 44)
          go_wp2_with fail
          refine (put_any _ _ ⟨x0, y0, x1, y1⟩ _ gA).mono ?_
          rintro e w5 ⟨rfl, hG5, hO5⟩
          go_wp2
          exact ⟨⟨j + 1, by omega, by go_num, hG5.cong Hr.out, lA.put_other gA hO5, rA.put_other gA hO5, only_far tA hO5 tA.size (Nat.le_refl _)⟩, by simp [intOf]; omega⟩
        · have hje : j = rs.length := by omega
          rw [hje, List.take_length, ← Hf.out] at hG1
          clear hje
          go_wp2
          exact ⟨⟨k + 1, by omega, by go_num, hG1, hL1, hb1⟩, by simp [intOf]; omega⟩
    · have hke : k = rss.length := by omega
      rw [hke, List.take_length] at hG
      clear hke
      go_wp2_with fail
      refine (region_any _ _ _ hG).mono ?_
      rintro e w9 ⟨u9, rfl, hR9, hb9⟩
      go_wp2
      go_ret
      exact ⟨_, rfl, hR9.less hb.size, hb.trans (hb9.mono hb.size)⟩

/-- Two valid rectangles overlap. -/
def overR (a b : Rc) : Bool := okRc (commonR a b)
theorem over_iff {a b : Rc} (ha : okRc a = true) (hb : okRc b = true) : overR a b = true ↔ ∃ i, i < 6400 ∧ inR a i = true ∧ inR b i = true := by
  rw [okRc_iff] at ha hb
  unfold overR
  rw [okRc_iff]
  unfold commonR
  dsimp only
  constructor
  · intro h
    refine ⟨((max a.y0 b.y0) + 40).toNat * 80 + ((max a.x0 b.x0) + 40).toNat, by omega, ?_, ?_⟩
    all_goals
      have e1 : (((max a.y0 b.y0) + 40).toNat * 80 + ((max a.x0 b.x0) + 40).toNat) / 80 = ((max a.y0 b.y0) + 40).toNat ∧ (((max a.y0 b.y0) + 40).toNat * 80 + ((max a.x0 b.x0) + 40).toNat) % 80 = ((max a.x0 b.x0) + 40).toNat := by omega
      rw [inR_iff, e1.1, e1.2]
      omega
  · rintro ⟨i, hi, h1, h2⟩
    rw [inR_iff] at h1 h2
    omega
/-- Two lists have a common cell, rectangle by rectangle. -/
def meetL (a b : List Rc) : Bool := a.any fun r => b.any (overR r)
theorem meetL_G {a b : List Rc} (ha : okAll a = true) (hb : okAll b = true) : meetL a b = meetG (cellsG a) (cellsG b) := by
  rw [okAll, List.all_eq_true] at ha hb
  rw [Bool.eq_iff_iff]
  unfold meetL meetG
  rw [List.any_eq_true, List.any_eq_true]
  constructor
  · rintro ⟨r, hr, h⟩
    rw [List.any_eq_true] at h
    obtain ⟨q, hq, h⟩ := h
    obtain ⟨i, hi, h1, h2⟩ := (over_iff (ha r hr) (hb q hq)).1 h
    refine ⟨i, List.mem_range.2 hi, ?_⟩
    rw [(cellsG_iff a i).2 ⟨r, hr, h1⟩, (cellsG_iff b i).2 ⟨q, hq, h2⟩]; rfl
  · rintro ⟨i, hi, h⟩
    rw [Bool.and_eq_true] at h
    obtain ⟨r, hr, h1⟩ := (cellsG_iff a i).1 h.1
    obtain ⟨q, hq, h2⟩ := (cellsG_iff b i).1 h.2
    refine ⟨r, hr, ?_⟩
    rw [List.any_eq_true]
    exact ⟨q, hq, (over_iff (ha r hr) (hb q hq)).2 ⟨i, List.mem_range.1 hi, h1, h2⟩⟩
theorem anyL_first {α : Type} {p : α → Bool} {l : List α} {k : Nat} {a : α} (h : l[k]? = some a) (hp : p a = true) : (l.drop k).any p = true := by
  rw [List.any_eq_true]
  obtain ⟨hk, he⟩ := List.getElem?_eq_some_iff.1 h
  exact ⟨a, by rw [List.drop_eq_getElem_cons hk, he]; simp, hp⟩
theorem anyL_next {α : Type} {p : α → Bool} {l : List α} {k : Nat} {a : α} (h : l[k]? = some a) (hp : p a = false) : (l.drop k).any p = (l.drop (k + 1)).any p := by
  obtain ⟨hk, he⟩ := List.getElem?_eq_some_iff.1 h
  rw [List.drop_eq_getElem_cons hk, he, List.any_cons, hp, Bool.false_or]
theorem anyL_last {α : Type} {p : α → Bool} {l : List α} {k : Nat} (h : l.length ≤ k) : (l.drop k).any p = false := by rw [List.drop_eq_nil_of_le h]; rfl

end Go.Proofs.Ytekglombgkndhaa
