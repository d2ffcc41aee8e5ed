/- Contracts: the program's unionAll, RectsOverlap, meet. No conditions of unionAll; of meet: valid rectangles. -/
import Derived.Test.YtggcabfognmfgaaGreatDoorCombA
import Derived.Test.YtggcabfognmfgaaGreatDoorSets
import Derived.Test.YtggcabfognmfgaaGreatDoorCovA
import Derived.Test.YtggcabfognmfgaaGreatDoorCanonA
namespace Go.Proofs.YtggcabfognmfgaaGreatDoor
open Go.RowKit

/-- A store into a set of the program keeps the lists. -/
theorem RLL.put_other {w w' : World} {g B : Nat} {v : Value} {rss : List (List Rc)} {G : Gr} (h : RLL w B v rss) (hG : GB w g 107 G) (hg : w.grownBy w' (some g)) : RLL w' B v rss := by
  obtain ⟨vs, h1, h2, h3⟩ := h
  obtain ⟨cs, hb, _⟩ := hG
  refine ⟨vs, World.ownsRow.kept h1 hg (.inr fun he => hb.apart' h1 (by decide) he.symm), h2, fun k u rs hu hr => ?_⟩
  have h4 := h3 k u rs hu hr
  exact World.ownsRow.kept h4 hg (.inr fun he => hb.apart' h4 (by decide) he.symm)
theorem RL.put_other {w w' : World} {g B : Nat} {v : Value} {rs : List Rc} {G : Gr} (h : RL w B v rs) (hG : GB w g 107 G) (hg : w.grownBy w' (some g)) : RL w' B v rs := by
  obtain ⟨cs, hb, _⟩ := hG
  exact World.ownsRow.kept h hg (.inr fun he => hb.apart' h (by decide) he.symm)
/-- Two lists as the arguments of a variadic call. -/
theorem RLL.two {w : World} {u1 u2 : Value} {a b : List Rc} (h1 : RL w 0 u1 a) (h2 : RL w 0 u2 b) : RLL (w.alloc (.cells #[u1, u2] 37)) 0 (.slice (some ⟨w.heap.size, 0, none⟩) 2 2) [a, b] := by
  refine ⟨[u1, u2], World.ownsRow_lit w #[u1, u2] 2 (Nat.zero_le _) (by simp [maxLen]) rfl, rfl, fun k u rs hu hr => ?_⟩
  match k with
  | 0 =>
    simp at hu hr
    subst hu hr
    exact World.ownsRow.alloc h1 _
  | 1 =>
    simp at hu hr
    subst hu hr
    exact World.ownsRow.alloc h2 _
  | k + 2 => simp at hu
theorem flat_step {rss : List (List Rc)} {k : Nat} {rs : List Rc} (h : rss[k]? = some rs) : (rss.take (k + 1)).flatten = (rss.take k).flatten ++ rs := by
  rw [List.take_add_one, h, Option.toList, List.flatten_append, List.flatten_cons, List.flatten_nil, List.append_nil]
theorem cells_more {qs rs : List Rc} {j : Nat} {r : Rc} (h : rs[j]? = some r) : orR (cellsG (qs ++ rs.take j)) r = cellsG (qs ++ rs.take (j + 1)) := by
  rw [List.take_add_one, h, Option.toList, ← List.append_assoc, cellsG_snoc]

/-- Two valid rectangles overlap. -/
def overR (a b : Rc) : Bool := okRc (commonR a b)
theorem over_iff {a b : Rc} (ha : okRc a = true) (hb : okRc b = true) : overR a b = true ↔ ∃ i, i < 6400 ∧ inR a i = true ∧ inR b i = true := by
  rw [okRc_iff] at ha hb
  unfold overR
  rw [okRc_iff]
  unfold commonR
  dsimp only
  constructor
  · intro h
    refine ⟨((max a.y0 b.y0) + 40).toNat * 80 + ((max a.x0 b.x0) + 40).toNat, by omega, ?_, ?_⟩
    all_goals
      have e1 : (((max a.y0 b.y0) + 40).toNat * 80 + ((max a.x0 b.x0) + 40).toNat) / 80 = ((max a.y0 b.y0) + 40).toNat ∧ (((max a.y0 b.y0) + 40).toNat * 80 + ((max a.x0 b.x0) + 40).toNat) % 80 = ((max a.x0 b.x0) + 40).toNat := by omega
      rw [inR_iff, e1.1, e1.2]
      omega
  · rintro ⟨i, hi, h1, h2⟩
    rw [inR_iff] at h1 h2
    omega
set_option maxHeartbeats 400000 in
set_option maxRecDepth 100000 in
/-- RectsOverlap of two valid rectangles. -/
theorem overlap_any (a b : Rc) (w : World) (ha : okRc a = true) (hb : okRc b = true) : Calls Tryz.prog 42 #[a.val, b.val] w fun e w' => e = .returned (.bool (overR a b)) ∧ Below w.heap.size w w' := by
  have z0 := (Bk.new w 35 #[.int .i64 a.x0, .int .i64 a.y0, .int .i64 a.x1, .int .i64 a.y1]).alloc (.cells #[.int .i64 b.x0, .int .i64 b.y0, .int .i64 b.x1, .int .i64 b.y1] 35)
  have z1 := Bk.new (w.alloc (.cells #[.int .i64 a.x0, .int .i64 a.y0, .int .i64 a.x1, .int .i64 a.y1] 35)) 35 #[.int .i64 b.x0, .int .i64 b.y0, .int .i64 b.x1, .int .i64 b.y1]
  have ez : (w.alloc (.cells #[.int .i64 a.x0, .int .i64 a.y0, .int .i64 a.x1, .int .i64 a.y1] 35)).heap.size = w.heap.size + 1 := by simp
  rw [ez] at z1
  clear ez
  have t0 := ((Below.refl w.heap.size w).alloc (Nat.le_refl _) (.cells #[.int .i64 a.x0, .int .i64 a.y0, .int .i64 a.x1, .int .i64 a.y1] 35)).alloc (by simp) (.cells #[.int .i64 b.x0, .int .i64 b.y0, .int .i64 b.x1, .int .i64 b.y1] 35)
  obtain ⟨p0, p1, p2, p3⟩ := box4 z0
  unfold Rc.val
  go_enter Tryz.func42, Tryz.ntmps42
  go_wp2_with fail
  refine (valid_impl a _).mono ?_
  rintro e w1 ⟨rfl, hb1⟩
  rw [ha]
  replace z0 := z0.on hb1
  replace z1 := z1.on hb1
  replace t0 := t0.trans (hb1.mono t0.size)
  obtain ⟨q0, q1, q2, q3⟩ := box4 z1
  go_wp2_with fail
  refine (valid_impl b _).mono ?_
  rintro e w2 ⟨rfl, hb2⟩
  rw [hb]
  replace z0 := z0.on hb2
  replace z1 := z1.on hb2
  replace t0 := t0.trans (hb2.mono t0.size)
  obtain ⟨p0, p1, p2, p3⟩ := box4 z0
  obtain ⟨q0, q1, q2, q3⟩ := box4 z1
  go_wp2_with fail
  refine (common_any a b _).mono ?_
  rintro e w3 ⟨rfl, hb3⟩
  replace t0 := t0.trans (hb3.mono t0.size)
  go_wp2_with fail
  refine (valid_impl (commonR a b) _).mono ?_
  rintro e w4 ⟨rfl, hb4⟩
  go_wp2
  go_ret
  exact ⟨rfl, t0.trans (hb4.mono t0.size)⟩

/-- Two lists have a common cell, rectangle by rectangle. -/
def meetL (a b : List Rc) : Bool := a.any fun r => b.any (overR r)
theorem meetL_G {a b : List Rc} (ha : okAll a = true) (hb : okAll b = true) : meetL a b = meetG (cellsG a) (cellsG b) := by
  rw [okAll, List.all_eq_true] at ha hb
  rw [Bool.eq_iff_iff]
  unfold meetL meetG
  rw [List.any_eq_true, List.any_eq_true]
  constructor
  · rintro ⟨r, hr, h⟩
    rw [List.any_eq_true] at h
    obtain ⟨q, hq, h⟩ := h
    obtain ⟨i, hi, h1, h2⟩ := (over_iff (ha r hr) (hb q hq)).1 h
    refine ⟨i, List.mem_range.2 hi, ?_⟩
    rw [(cellsG_iff a i).2 ⟨r, hr, h1⟩, (cellsG_iff b i).2 ⟨q, hq, h2⟩]; rfl
  · rintro ⟨i, hi, h⟩
    rw [Bool.and_eq_true] at h
    obtain ⟨r, hr, h1⟩ := (cellsG_iff a i).1 h.1
    obtain ⟨q, hq, h2⟩ := (cellsG_iff b i).1 h.2
    refine ⟨r, hr, ?_⟩
    rw [List.any_eq_true]
    exact ⟨q, hq, (over_iff (ha r hr) (hb q hq)).2 ⟨i, List.mem_range.1 hi, h1, h2⟩⟩
theorem anyL_first {α : Type} {p : α → Bool} {l : List α} {k : Nat} {a : α} (h : l[k]? = some a) (hp : p a = true) : (l.drop k).any p = true := by
  rw [List.any_eq_true]
  obtain ⟨hk, he⟩ := List.getElem?_eq_some_iff.1 h
  exact ⟨a, by rw [List.drop_eq_getElem_cons hk, he]; simp, hp⟩
theorem anyL_next {α : Type} {p : α → Bool} {l : List α} {k : Nat} {a : α} (h : l[k]? = some a) (hp : p a = false) : (l.drop k).any p = (l.drop (k + 1)).any p := by
  obtain ⟨hk, he⟩ := List.getElem?_eq_some_iff.1 h
  rw [List.drop_eq_getElem_cons hk, he, List.any_cons, hp, Bool.false_or]
theorem anyL_last {α : Type} {p : α → Bool} {l : List α} {k : Nat} (h : l.length ≤ k) : (l.drop k).any p = false := by rw [List.drop_eq_nil_of_le h]; rfl

set_option maxHeartbeats 800000 in
set_option maxRecDepth 100000 in
/-- meet. -/
theorem meet_any (v u : Value) (a b : List Rc) (w : World) (hv : RL w 0 v a) (hu : RL w 0 u b) (ha : okAll a = true) (hb : okAll b = true) : Calls Tryz.prog 28 #[v, u] w fun e w' => e = .returned (.bool (meetL a b)) ∧ Below w.heap.size w w' := by
  obtain ⟨A, c, rfl, hc, hm, -⟩ := hv.form
  obtain ⟨A2, c2, rfl, hc2, hm2, -⟩ := hu.form
  have hm' : a.length ≤ 9223372036854775807 := by unfold maxLen at hm; omega
  have hm2' : b.length ≤ 9223372036854775807 := by unfold maxLen at hm2; omega
  have Ha := Lib.hid ha
  have Hb := Lib.hid hb
  clear ha hb
  go_enter Tryz.func28, Tryz.ntmps28
  go_wp2
  go_loopw [11] (fun iv wr => ∃ k : Nat, k ≤ a.length ∧ iv = .int .i64 k ∧ Hid ((a.drop k).any (fun r => b.any (overR r)) = meetL a b) ∧ Below w.heap.size w wr) (fun iv _ => a.length - (intOf iv).toNat)
  case atStart => exact ⟨0, Nat.zero_le _, rfl, Lib.hid rfl, Below.refl _ _⟩
  case round =>
    obtain ⟨k, hk, rfl, hf, hb0⟩ := hrel
    by_cases hlt : k < a.length
    · obtain ⟨g, x0, y0, x1, y1, rfl, hr, hg, f0, f1, f2, f3⟩ := (hv.on hb0).elem hlt
      have hok := okAll_get Ha.out hr
      have Hr := Lib.hid hr
      have zr := Bk.new wr 35 #[.int .i64 x0, .int .i64 y0, .int .i64 x1, .int .i64 y1]
      have t1 := hb0.alloc hb0.size (.cells #[.int .i64 x0, .int .i64 y0, .int .i64 x1, .int .i64 y1] 35)
      clear hr
      go_wp2
      go_loopw [17] (fun jv wi => ∃ j : Nat, j ≤ b.length ∧ jv = .int .i64 j ∧ Hid ((b.drop j).any (overR ⟨x0, y0, x1, y1⟩) = b.any (overR ⟨x0, y0, x1, y1⟩)) ∧ Bk wi wr.heap.size 35 #[.int .i64 x0, .int .i64 y0, .int .i64 x1, .int .i64 y1] ∧ Below w.heap.size w wi) (fun jv _ => b.length - (intOf jv).toNat)
      case atStart => exact ⟨0, Nat.zero_le _, rfl, Lib.hid rfl, zr, t1⟩
      case round =>
        obtain ⟨j, hj, rfl, hf2, hz, hb1⟩ := hrel
        clear zr t1 f0 f1 f2 f3
        by_cases hltj : j < b.length
        · obtain ⟨g', u0, v0, u1, v1, rfl, hr2, hg', f0, f1, f2, f3⟩ := (hu.on hb1).elem hltj
          have hok2 := okAll_get Hb.out hr2
          have zA := hz.alloc (.cells #[.int .i64 u0, .int .i64 v0, .int .i64 u1, .int .i64 v1] 35)
          have zq := Bk.new wr 35 #[.int .i64 u0, .int .i64 v0, .int .i64 u1, .int .i64 v1]
          have tA := hb1.alloc hb1.size (.cells #[.int .i64 u0, .int .i64 v0, .int .i64 u1, .int .i64 v1] 35)
          obtain ⟨p0, p1, p2, p3⟩ := box4 zA
          obtain ⟨q0, q1, q2, q3⟩ := box4 zq
          by_cases ho : overR ⟨x0, y0, x1, y1⟩ ⟨u0, v0, u1, v1⟩ = true
          · have Hm := Lib.hid (hf.out.symm.trans (anyL_first (p := fun r => b.any (overR r)) Hr.out (hf2.out.symm.trans (anyL_first hr2 ho))))
            clear hr2
            go_wp2_with fail
            refine (overlap_any ⟨x0, y0, x1, y1⟩ ⟨u0, v0, u1, v1⟩ _ hok hok2).mono ?_
            rintro e w5 ⟨rfl, hb5⟩
            rw [ho]
            go_wp2
            go_ret
            exact ⟨ret_bool Hm.out.symm, tA.trans (hb5.mono tA.size)⟩
          · have ho' : overR ⟨x0, y0, x1, y1⟩ ⟨u0, v0, u1, v1⟩ = false := by simpa using ho
            have Hn := Lib.hid ((anyL_next hr2 ho').symm.trans hf2.out)
            clear hr2 ho
            go_wp2_with fail
            refine (overlap_any ⟨x0, y0, x1, y1⟩ ⟨u0, v0, u1, v1⟩ _ hok hok2).mono ?_
            rintro e w5 ⟨rfl, hb5⟩
            rw [ho']
            go_wp2
            exact ⟨⟨j + 1, by omega, by go_num, Hn, zA.on hb5, tA.trans (hb5.mono tA.size)⟩, by simp [intOf]; omega⟩
        · have Hn := Lib.hid ((anyL_next (p := fun r => b.any (overR r)) Hr.out (hf2.out.symm.trans (anyL_last (by omega)))).symm.trans hf.out)
          go_wp2
          exact ⟨⟨k + 1, by omega, by go_num, Hn, hb1⟩, by simp [intOf]; omega⟩
    · have Hn := Lib.hid (hf.out.symm.trans (anyL_last (by omega)))
      go_wp2
      go_ret
      exact ⟨ret_bool Hn.out.symm, hb0⟩

end Go.Proofs.YtggcabfognmfgaaGreatDoor
