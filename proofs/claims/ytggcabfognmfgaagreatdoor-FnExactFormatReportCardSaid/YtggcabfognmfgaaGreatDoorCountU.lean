/- Contracts: CountByRule of the reference and of the program. Condition: a list of violations in memory. Contracts: MarkerUnion of the reference and of the program. Condition: a list of violations in memory. -/
import Derived.Test.YtggcabfognmfgaaGreatDoorRepA
import Derived.Test.YtggcabfognmfgaaGreatDoorInts
import Derived.Test.YtggcabfognmfgaaGreatDoorLawKit
import Derived.Test.YtggcabfognmfgaaGreatDoorUnion
import Derived.Test.YtggcabfognmfgaaGreatDoorLawB
namespace Go.Proofs.YtggcabfognmfgaaGreatDoor
open Go.RowKit

def cntAt (vs : List (Int × List Rc)) (r : Nat) : Int := (vs.countP fun q => decide (q.1 = (r : Int)) : Nat)
def cntL (vs : List (Int × List Rc)) (n : Nat) : List Int := (List.range n).map (cntAt vs)
noncomputable def cntV (vs : List (Int × List Rc)) (m : Int) : List Int := if repB okV vs = true ∧ inB 0 m 12 = true then cntL vs m.toNat else []
theorem cntL_length (vs : List (Int × List Rc)) (n : Nat) : (cntL vs n).length = n := by simp [cntL]
theorem cntL_get (vs : List (Int × List Rc)) {n r : Nat} (h : r < n) : (cntL vs n)[r]? = some (cntAt vs r) := by simp [cntL, h]
theorem cntV_yes {vs : List (Int × List Rc)} {n : Nat} (h : repB okV vs = true) (h2 : inB 0 (n : Int) 12 = true) : cntV vs n = cntL vs n := by unfold cntV; rw [if_pos ⟨h, h2⟩, Int.toNat_natCast]
theorem cntV_no1 {vs : List (Int × List Rc)} {m : Int} (h : repB okV vs = false) : cntV vs m = [] := if_neg (by rw [h]; simp)
theorem cntV_no2 {vs : List (Int × List Rc)} {m : Int} (h : inB 0 m 12 = false) : cntV vs m = [] := if_neg (by rw [h]; simp)
theorem cntV_length (vs : List (Int × List Rc)) (m : Int) : (cntV vs m).length ≤ 1000000 := by
  unfold cntV
  split
  · rename_i h
    rw [cntL_length]
    have := (inB_iff 0 m 12).1 h.2
    omega
  · simp
theorem cntAt_bounds (vs : List (Int × List Rc)) (r : Nat) : 0 ≤ cntAt vs r ∧ cntAt vs r ≤ vs.length := by
  have := List.countP_le_length (p := fun q : Int × List Rc => decide (q.1 = (r : Int))) (l := vs)
  unfold cntAt
  omega
theorem cntAt_step {vs : List (Int × List Rc)} {k : Nat} {q : Int × List Rc} (h : vs[k]? = some q) (r : Nat) : cntAt (vs.take (k + 1)) r = cntAt (vs.take k) r + if q.1 = (r : Int) then 1 else 0 := by
  unfold cntAt
  rw [List.take_add_one, h, Option.toList, List.countP_append, List.countP_cons, List.countP_nil]
  split <;> simp_all
theorem cnt_yes {vs : List (Int × List Rc)} {k n r : Nat} {q : Int × List Rc} (h : vs[k]? = some q) (hr : q.1 = (r : Int)) (hn : r < n) : (cntL (vs.take k) n).set r (cntAt (vs.take k) r + 1) = cntL (vs.take (k + 1)) n := by
  apply List.ext_getElem?
  intro i
  by_cases hi : i < n
  · rw [cntL_get _ hi, cntAt_step h]
    by_cases e : i = r
    · subst e
      rw [List.getElem?_set_self (by rw [cntL_length]; exact hi), if_pos hr]
    · rw [List.getElem?_set_ne (fun e' => e e'.symm), cntL_get _ hi, if_neg (by omega), Int.add_zero]
  · rw [List.getElem?_eq_none (by rw [List.length_set, cntL_length]; omega), List.getElem?_eq_none (by rw [cntL_length]; omega)]
theorem cnt_no {vs : List (Int × List Rc)} {k n : Nat} {q : Int × List Rc} (h : vs[k]? = some q) (hr : ¬ q.1 < (n : Int)) : cntL (vs.take k) n = cntL (vs.take (k + 1)) n := by
  apply List.ext_getElem?
  intro i
  by_cases hi : i < n
  · rw [cntL_get _ hi, cntL_get _ hi, cntAt_step h, if_neg (by omega), Int.add_zero]
  · rw [List.getElem?_eq_none (by rw [cntL_length]; omega), List.getElem?_eq_none (by rw [cntL_length]; omega)]
theorem cntL_start (vs : List (Int × List Rc)) (n : Nat) : cntL (vs.take 0) n = List.replicate n 0 := by
  apply List.ext_getElem?
  intro i
  by_cases hi : i < n
  · rw [cntL_get _ hi, List.getElem?_replicate, if_pos hi]
    rfl
  · rw [List.getElem?_eq_none (by rw [cntL_length]; omega), List.getElem?_eq_none (by simp; omega)]
theorem valsI_zeros (n : Nat) : (madeCells #[.int .i64 0] n).toList = valsI (List.replicate n 0) := by
  apply List.ext_getElem?
  intro j
  rw [valsI_get]
  simp only [madeCells, Array.toList_map, Array.toList_range, List.getElem?_map, List.getElem?_replicate]
  by_cases hj : j < n
  · rw [List.getElem?_range (by omega), if_pos hj]
    have e : j % 1 = 0 := by omega
    show some ((#[Value.int .i64 0] : Array Value)[j % 1]!) = _
    rw [e]
    rfl
  · rw [if_neg hj, List.getElem?_eq_none (by simp; omega)]
    rfl
theorem rep_rule {vs : List (Int × List Rc)} (h : repB okV vs = true) {k : Nat} {q : Int × List Rc} (hq : vs[k]? = some q) : okV q = true ∧ 0 ≤ q.1 ∧ q.1 ≤ 11 := by
  have hg := ((repB_iff.1 h).2 k q (List.getElem?_eq_some_iff.1 hq).1 hq).1
  have h2 := hg
  unfold okV vioV at h2
  rw [Bool.and_eq_true] at h2
  have := (inB_iff 0 q.1 11).1 h2.1
  exact ⟨hg, this⟩
theorem rep_len {vs : List (Int × List Rc)} (h : repB okV vs = true) : vs.length ≤ 256 := (repB_iff.1 h).1


end Go.Proofs.YtggcabfognmfgaaGreatDoor

namespace Go.Proofs.YtggcabfognmfgaaGreatDoor
open Go.RowKit

/-- The slice value v, of the call's own, holds lists of rectangles that lie wherever. -/
def RLF (w : World) (B : Nat) (v : Value) (rss : List (List Rc)) : Prop := ∃ vs, VL w B 37 v vs ∧ vs.length = rss.length ∧ ∀ (k : Nat) (u : Value) (rs : List Rc), vs[k]? = some u → rss[k]? = some rs → RL w 0 u rs
theorem RLF.on {w w' : World} {B : Nat} {v : Value} {rss : List (List Rc)} (h : RLF w B v rss) (hb : Below w.heap.size w w') : RLF w' B v rss := let ⟨vs, h1, h2, h3⟩ := h; ⟨vs, h1.on hb, h2, fun k u rs hu hr => (h3 k u rs hu hr).on hb⟩
theorem RLF.all {w : World} {B : Nat} {v : Value} {rss : List (List Rc)} (h : RLF w B v rss) : RLL w 0 v rss := let ⟨vs, h1, h2, h3⟩ := h; ⟨vs, h1.less (Nat.zero_le _), h2, h3⟩
theorem RLF.form {w : World} {B : Nat} {v : Value} {rss : List (List Rc)} (h : RLF w B v rss) : ∃ A cap, v = .slice A rss.length cap := by obtain ⟨A, cap, hv, _⟩ := h.all.form; exact ⟨A, cap, hv⟩
theorem RLF.lit0 (w : World) {B : Nat} (hB : B ≤ w.heap.size) : RLF (w.alloc (.cells #[] 37)) B (.slice (some ⟨w.heap.size, 0, none⟩) 0 0) [] := ⟨[], World.ownsRow_lit w #[] 0 hB (by simp [maxLen]) rfl, rfl, fun k u rs hu => by simp at hu⟩
theorem wpList_append_RLF {w : World} {ops : Array Oper} {rest : List Oper} {o : Oper} {a : Act} {Q : Exit → Act → World → Prop} (hgd : o.guard = none) (s x : Operand)
    (ho : o.op = .call { callee := .builtin .append, args := #[s, x], argTypes := #[79, 79] })
    (B : Nat) (v : Value) (rss : List (List Rc)) (hs : a.eval s = v) (hown : RLF w B v rss) (u : Value) (rs : List Rc) (hu : RL w 0 u rs) (hx : a.eval x = .slice (some ⟨w.heap.size, 0, none⟩) 1 1) (hlen : rss.length ≤ 1000000) (hB : B ≤ w.heap.size)
    (h : ∀ v' w', RLF w' B v' (rss ++ [rs]) → w.grownBy w' v.ownBlock → Below B w w' → wpList Tryz.prog ops Q rest (a.put o.dst v') w') :
    wpList Tryz.prog ops Q (o :: rest) a (w.alloc (.cells #[u] 37)) := by
  obtain ⟨vs, h1, h2, h3⟩ := hown
  have hone : u.oneCell' = true := by obtain ⟨A, c, rfl, _⟩ := hu.form; rfl
  refine wpList_append_G hgd s x 37 79 1 24 _ infoRects Tryz.underlying79 rfl (by decide) (by decide) ho B v vs.length vs hs h1 [u] rfl (by simpa using hone) hx (by omega) hB ?_
  intro v' w' k1 k2 k3
  refine h v' w' ⟨vs ++ [u], by unfold VL; rw [List.length_append]; exact k1, by simp [h2], fun k y qs hy hq => ?_⟩ k2 k3
  by_cases hk : k < vs.length
  · rw [List.getElem?_append_left hk] at hy
    rw [List.getElem?_append_left (by omega)] at hq
    have hr := h3 k y qs hy hq
    exact World.ownsRow.kept hr k2 (own_apart hr h1 (by decide))
  · have hke : k = vs.length := by have := (List.getElem?_eq_some_iff.1 hy).1; simp at this; omega
    subst hke
    rw [List.getElem?_append_right (Nat.le_refl _), Nat.sub_self] at hy
    rw [List.getElem?_append_right (by omega), h2, Nat.sub_self] at hq
    simp at hy hq
    subst hy hq
    exact World.ownsRow.kept hu k2 (own_apart hu h1 (by decide))

/-- The markers of a rule. -/
def selL (vs : List (Int × List Rc)) (r : Int) : List (List Rc) := (vs.filter fun q => decide (q.1 = r)).map Prod.snd
theorem sel_yes {vs : List (Int × List Rc)} {k : Nat} {q : Int × List Rc} {r : Int} (h : vs[k]? = some q) (hr : q.1 = r) : selL (vs.take (k + 1)) r = selL (vs.take k) r ++ [q.2] := by
  unfold selL
  rw [List.take_add_one, h, Option.toList, List.filter_append, List.map_append, List.filter_cons, if_pos (decide_eq_true hr)]
  rfl
theorem sel_no {vs : List (Int × List Rc)} {k : Nat} {q : Int × List Rc} {r : Int} (h : vs[k]? = some q) (hr : q.1 ≠ r) : selL (vs.take (k + 1)) r = selL (vs.take k) r := by
  unfold selL
  rw [List.take_add_one, h, Option.toList, List.filter_append, List.map_append, List.filter_cons, if_neg (by simpa using hr)]
  simp
theorem sel_len (vs : List (Int × List Rc)) (k : Nat) (r : Int) : (selL (vs.take k) r).length ≤ k := by
  unfold selL
  rw [List.length_map]
  exact Nat.le_trans (List.length_filter_le _ _) (by rw [List.length_take]; omega)
noncomputable def muV (vs : List (Int × List Rc)) (r : Int) : List Rc := if repB okV vs = true then canon (cellsG (selL vs r).flatten) else []
theorem muV_yes {vs : List (Int × List Rc)} {r : Int} (h : repB okV vs = true) : muV vs r = canon (cellsG (selL vs r).flatten) := if_pos h
theorem muV_no {vs : List (Int × List Rc)} {r : Int} (h : repB okV vs = false) : muV vs r = [] := if_neg (by rw [h]; simp)
theorem muV_length (vs : List (Int × List Rc)) (r : Int) : (muV vs r).length ≤ 1000000 := by
  unfold muV
  split
  · have := canon_few (cellsG (selL vs r).flatten)
    omega
  · simp
theorem cells_sel {vs : List (Int × List Rc)} {k : Nat} {q : Int × List Rc} {r : Int} (h : vs[k]? = some q) (hr : q.1 = r) : cellsG (selL (vs.take (k + 1)) r).flatten = unionG (cellsG (selL (vs.take k) r).flatten) (cellsG q.2) := by
  rw [sel_yes h hr, List.flatten_append, cellsG_append, List.flatten_cons, List.flatten_nil, List.append_nil]

end Go.Proofs.YtggcabfognmfgaaGreatDoor
