/- The markers of an area rule: plain law, and the contract of the reference's MarkArea. No conditions. Contracts: the program's choose (of the small components), SelectSmall and MarkArea. No conditions. Contracts: a violation copied (by the reference, by the program); an append to a list of violations of the call's own. Conditions: lists in memory, not empty. -/
import Derived.Test.YtjiljodchebniaaGreatQ36
import Derived.Test.YtjiljodchebniaaGreatQ07
import Derived.Deep.RegionHeld
import Derived.Test.YtjiljodchebniaaGreatQ31
import Derived.Test.YtjiljodchebniaaGreatQ24
import Derived.StillTailTactics
import Derived.BigRegion
import Derived.Deep.CutRange

namespace Go.Proofs.YtjiljodchebniaaGreat
open Go.RowKit

def smallStep (n : Int) (o P : Gr) : Gr := if countG P < n then unionG o P else o
/-- The cells of the sets with fewer than n cells. -/
def smallG (n : Int) (Gs : List Gr) : Gr := Gs.foldl (smallStep n) emptyG
def fewGs (n : Int) (Gs : List Gr) : List Gr := Gs.filter fun P => decide (countG P < n)
def smallL (n : Int) (Gs : List Gr) : List (List Rc) := (fewGs n Gs).map canon
theorem smallG_step (n : Int) {Gs : List Gr} {k : Nat} {P : Gr} (h : Gs[k]? = some P) : smallG n (Gs.take (k + 1)) = smallStep n (smallG n (Gs.take k)) P := by
  unfold smallG
  rw [List.take_add_one, h, Option.toList, List.foldl_append]; rfl
theorem smallL_step (n : Int) {Gs : List Gr} {k : Nat} {P : Gr} (h : Gs[k]? = some P) : smallL n (Gs.take (k + 1)) = if countG P < n then smallL n (Gs.take k) ++ [canon P] else smallL n (Gs.take k) := by
  unfold smallL fewGs
  rw [List.take_add_one, h, Option.toList, List.filter_append, List.map_append]
  by_cases hc : countG P < n
  · simp [hc]
  · simp [hc]
theorem smallL_length (n : Int) (Gs : List Gr) (k : Nat) : (smallL n (Gs.take k)).length ≤ k := by
  unfold smallL fewGs
  rw [List.length_map]
  exact Nat.le_trans (List.length_filter_le _ _) (by rw [List.length_take]; omega)
theorem small_fold (n : Int) : ∀ (Gs : List Gr) (o : Gr), sameG (unionG o (cellsG (smallL n Gs).flatten)) (Gs.foldl (smallStep n) o)
  | [], o => fun i _ => by simp [smallL, fewGs, unionG, cellsG]
  | P :: Gs, o => by
    intro i hi
    rw [List.foldl_cons, ← small_fold n Gs (smallStep n o P) i hi]
    unfold smallStep smallL fewGs
    by_cases hc : countG P < n
    · rw [List.filter_cons_of_pos (by simpa using hc), List.map_cons, List.flatten_cons, cellsG_append, if_pos hc]
      unfold unionG
      rw [cells_canon P i hi, Bool.or_assoc]
    · rw [List.filter_cons_of_neg (by simpa using hc), if_neg hc]
theorem small_canon (n : Int) (Gs : List Gr) : canon (cellsG (smallL n Gs).flatten) = canon (smallG n Gs) := by
  refine canon_congr fun i hi => ?_
  have := small_fold n Gs emptyG i hi
  unfold smallG
  rw [← this]
  simp [unionG, emptyG]
/-- The markers of an area rule. -/
noncomputable def areaMV (rs : List Rc) (n : Int) : List Rc := if isReg rs = true ∧ 1 ≤ n ∧ n ≤ 6400 then canon (smallG n (comps (cellsG rs))) else []
theorem areaMV_yes {rs : List Rc} {n : Int} (h : isReg rs = true) (h1 : 1 ≤ n) (h2 : n ≤ 6400) : areaMV rs n = canon (smallG n (comps (cellsG rs))) := if_pos ⟨h, h1, h2⟩
theorem areaMV_no {rs : List Rc} {n : Int} (h : ¬ (isReg rs = true ∧ 1 ≤ n ∧ n ≤ 6400)) : areaMV rs n = [] := if_neg h
theorem areaMV_length (rs : List Rc) (n : Int) : (areaMV rs n).length ≤ 1000000 := by
  unfold areaMV
  split
  · have := canon_length (smallG n (comps (cellsG rs))); omega
  · simp

end Go.Proofs.YtjiljodchebniaaGreat

namespace Go.Proofs.YtjiljodchebniaaGreat
open Go.RowKit

theorem RLL.kept {w w' : World} {B B2 : Nat} {v v2 : Value} {rss qss : List (List Rc)} (h : RLL w B v rss) (ho : RLL w B2 v2 qss) (hne : v.ownBlock = none ∨ v.ownBlock ≠ v2.ownBlock) (hg : w.grownBy w' v2.ownBlock) : RLL w' B v rss := by
  obtain ⟨vs, h1, h2, h3⟩ := h
  obtain ⟨ws, k1, _, _⟩ := ho
  exact ⟨vs, World.ownsRow.kept h1 hg hne, h2, fun k u rs hu hr => World.ownsRow.kept (h3 k u rs hu hr) hg (own_apart (h3 k u rs hu hr) k1 (by decide))⟩
/-- As wpList_append_RLL; the list's block stays or is new. -/
theorem wpList_append_RLM {w : World} {ops : Array Oper} {rest : List Oper} {o : Oper} {a : Act} {Q : Exit → Act → World → Prop} (hgd : o.guard = none) (s x : Operand)
    (ho : o.op = .call { callee := .builtin .append, args := #[s, x], argTypes := #[28, 28] })
    (B : Nat) (v : Value) (rss : List (List Rc)) (hs : a.eval s = v) (hown : RLL w B v rss) (u : Value) (rs : List Rc) (hu : RL w B u rs) (hx : a.eval x = .slice (some ⟨w.heap.size, 0, none⟩) 1 1) (hlen : rss.length ≤ 1000000) (hB : B ≤ w.heap.size)
    (h : ∀ v' w', RLL w' B v' (rss ++ [rs]) → w.grownBy w' v.ownBlock → Below B w w' → (v'.ownBlock = v.ownBlock ∨ ∃ g, v'.ownBlock = some g ∧ w.heap.size ≤ g) → wpList Tryz.prog ops Q rest (a.put o.dst v') w') :
    wpList Tryz.prog ops Q (o :: rest) a (w.alloc (.cells #[u] 24)) := by
  obtain ⟨vs, h1, h2, h3⟩ := hown
  have hone : u.oneCell' = true := by obtain ⟨A, c, rfl, _⟩ := hu.form; rfl
  obtain ⟨i, hi, hz, hsz, hby⟩ := info_parts infoRects
  refine wpList_append_own_at _ hgd s x 28 ho B 24 i _ 1 24 Tryz.underlying28 hi hz hsz hby rfl (by decide) v vs.length vs hs (World.ownsRow.alloc h1 _) ⟨w.heap.size, 0, none⟩ 1 1
    [u] hx rfl ?_ ?_ (by simp only [maxLen]; omega) (by omega) (by simp; omega) ?_
  · intro j y hy
    rw [Addr.add_lit, World.cell?_alloc_new]
    simpa using hy
  · intro y hy
    simp at hy
    subst hy
    exact hone
  · intro v' w' k1 k2 _ hat
    have k3 := grown_of_alloc k2
    refine h v' w' ⟨vs ++ [u], by unfold VL; rw [List.length_append]; exact k1, by simp [h2], fun k y qs hy hq => ?_⟩ k3 (below_own h1 k3 hB) ?_
    · by_cases hk : k < vs.length
      · rw [List.getElem?_append_left hk] at hy
        rw [List.getElem?_append_left (by omega)] at hq
        have hr := h3 k y qs hy hq
        exact World.ownsRow.kept hr k3 (own_apart hr h1 (by decide))
      · have hke : k = vs.length := by have := (List.getElem?_eq_some_iff.1 hy).1; simp at this; omega
        subst hke
        rw [List.getElem?_append_right (Nat.le_refl _), Nat.sub_self] at hy
        rw [List.getElem?_append_right (by omega), h2, Nat.sub_self] at hq
        simp at hy hq
        subst hy hq
        exact World.ownsRow.kept hu k3 (own_apart hu h1 (by decide))
    · rcases hat with hat | hat
      · exact .inl hat
      · exact .inr ⟨_, hat, by simp⟩

set_option maxHeartbeats 800000 in
/-- The closure of SelectSmall. -/
theorem small_clo (v : Value) (rs : List Rc) (n : Int) (ab : Nat) (w : World) (hv : RL w 0 v rs) (hok : okAll rs = true) (hlen : rs.length ≤ 100000) (hn : w.cell? ⟨ab, 0, none⟩ = some (.int .i64 n)) (hab : ab < w.heap.size) : Calls Tryz.prog 146 #[v, .pointer (some ⟨ab, 0, none⟩)] w fun e w' => e = .returned (.bool (decide (sumA rs < n))) ∧ Below w.heap.size w w' := by
  go_enter Tryz.func146, Tryz.ntmps146
  have hk1 := fun (w1 : World) (h1 : Below w.drew.heap.size w.drew w1) => (h1.cell (p := ⟨ab, 0, none⟩) hab).trans (show w.drew.cell? ⟨ab, 0, none⟩ = _ from hn)
  go_wp2_with fail
  go_region_held3 (fun w' => w'.cell? ⟨ab, 0, none⟩ = some (.int .i64 n)) (first | exact hn | exact hk1 _ hB1)
    ((go_at_call 147; refine (regionArea_any v rs _ (hv.drew) hok hlen).mono ?_; rintro e w1 ⟨rfl, hB1⟩))
  all_goals
    go_wp2
    go_ret
    exact ⟨rfl, (Below.refl _ _).drew.trans hB1⟩

set_option maxHeartbeats 1600000 in
set_option maxRecDepth 100000 in
/-- choose, of the components with fewer than n cells. -/
theorem choose_small (v : Value) (rs : List Rc) (n : Int) (ab : Nat) (w : World) (hv : RL w 0 v rs) (hn : w.cell? ⟨ab, 0, none⟩ = some (.int .i64 n)) (hab : ab < w.heap.size) : Calls Tryz.prog 145 #[v, .func (.func 146) #[] #[.pointer (some ⟨ab, 0, none⟩)]] w fun e w' => ∃ u, e = .returned u ∧ RL w' w.heap.size u (canon (smallG n (comps (cellsG rs)))) ∧ Below w.heap.size w w' := by
  have Hlen := Lib.hid (comps_length (cellsG rs))
  have l0 : RLL (w.alloc (.cells #[] 24)) w.heap.size (.slice (some ⟨w.heap.size, 0, none⟩) 0 0) (smallL n ((comps (cellsG rs)).take 0)) := ⟨[], World.ownsRow_lit w #[] 0 (Nat.le_refl _) (by simp [maxLen]) rfl, rfl, fun k u rs hu => by simp at hu⟩
  have b0 := (Below.refl w.heap.size w).alloc (Nat.le_refl _) (.cells #[] 24)
  have hv0 := RL.alloc hv (.cells #[] 24)
  have e0 : (w.alloc (.cells #[] 24)).heap.size = w.heap.size + 1 := by simp
  go_enter Tryz.func145, Tryz.ntmps145
  go_wp2_with fail
  refine (components_any v rs _ hv0).mono ?_
  rintro e wc ⟨u, rfl, hU, hbc⟩
  have l1 := l0.on hbc
  have b1 := b0.trans (hbc.mono b0.size)
  have hs1 := hbc.size
  rw [e0] at hU hs1
  have hUg : ∃ vs, VL wc (w.heap.size + 1) 24 u vs := by obtain ⟨vs, h, _⟩ := hU; exact ⟨vs, h⟩
  have hUB : ∀ g, u.ownBlock = some g → w.heap.size + 1 ≤ g ∧ g < wc.heap.size := by
    obtain ⟨vs, h⟩ := hUg
    intro g hg
    rcases h.2 with ⟨rfl, _⟩ | ⟨g', cap, cur, rfl, hB, hh, _⟩
    · simp [Value.ownBlock] at hg
    · simp [Value.ownBlock] at hg
      subst hg
      exact ⟨hB, by rw [Array.getElem?_eq_some_iff] at hh; exact hh.1⟩
  clear hUg l0 b0 hv hv0 hbc e0
  replace hU := hU.less (Nat.le_succ _)
  obtain ⟨A, c, rfl, hc, hm⟩ := hU.form
  rw [List.length_map] at hc hU hUB
  have hm' : (comps (cellsG rs)).length ≤ 9223372036854775807 := by have := Hlen.out; omega
  have HUB := Lib.hid hUB
  clear hUB
  generalize hG : cellsG rs = G at *
  have HG := Lib.hid hG
  clear hG
  rw [List.length_map]
  go_wp2
  go_loopw [5, 12] (fun lv iv wr => ∃ k : Nat, k ≤ (comps G).length ∧ iv = .int .i64 k ∧ RLL wr w.heap.size lv (smallL n ((comps G).take k)) ∧ Hid (∀ g, lv.ownBlock = some g → g = w.heap.size ∨ wc.heap.size ≤ g) ∧ RLL wr w.heap.size (.slice A (comps G).length c) ((comps G).map canon) ∧ wr.cell? ⟨ab, 0, none⟩ = some (.int .i64 n) ∧ Below w.heap.size w wr ∧ wc.heap.size ≤ wr.heap.size) (fun _ iv _ => (comps G).length - (intOf iv).toNat)
  case atStart => exact ⟨0, Nat.zero_le _, rfl, l1, Lib.hid (fun g hg => by simp [Value.ownBlock] at hg; omega), hU, (b1.cell hab).trans hn, b1, Nat.le_refl _⟩
  case round =>
    obtain ⟨k, hk, rfl, hL, HS, hR, hz, hb, hsz⟩ := hrel
    clear hU b1 l1 hn
    by_cases hlt : k < (comps G).length
    · obtain ⟨g, u, qs, rfl, hr, hg, f0, hQ⟩ := hR.elem (k := k) (by rw [List.length_map]; exact hlt)
      obtain ⟨P, hP⟩ : ∃ P, (comps G)[k]? = some P := ⟨_, List.getElem?_eq_getElem hlt⟩
      rw [List.getElem?_map, hP] at hr
      simp only [Option.map_some, Option.some.injEq] at hr
      subst hr
      have hst := smallL_step n hP
      have hll := smallL_length n (comps G) k
      have hrl := canon_few P
      have hrok := canon_ok P
      have hsum := count_canon P
      have hclo := small_clo u (canon P) n ab wr (hQ.less (Nat.zero_le _)) hrok (by omega) hz (Nat.lt_of_lt_of_le hab hb.size)
      rw [hsum] at hclo
      obtain ⟨A2, c2, rfl, -, -, -⟩ := hQ.form
      have Hl6 := Hlen.out
      clear hsum hrok hP
      by_cases hc : countG P < n
      · rw [if_pos hc] at hst
        rw [decide_eq_true hc] at hclo
        have Hst := Lib.hid hst
        clear hst hc
        go_wp2_with fail
        refine hclo.mono ?_
        rintro e w3 ⟨rfl, hb3⟩
        have hz3 := (hb3.cell (Nat.lt_of_lt_of_le hab hb.size)).trans hz
        have hL3 := hL.on hb3
        have hR3 := hR.on hb3
        have hQ3 := RL.on hQ hb3
        have hb4 := hb.trans (hb3.mono hb.size)
        have hsz3 := Nat.le_trans hsz hb3.size
        have hbz := hb4.size
        clear hclo hz hL hR hQ hb hb3 f0 hsz
        go_wp2_with (at_builtin; refine wpList_append_RLM rfl (.tmp 19) (.tmp 21) rfl w.heap.size _ _ rfl hL3 _ _ hQ3 rfl (by omega) hbz ?_; intro v' w4 k1 k2 k3 k4)
        have hgu := HUB.out g rfl
        have hR4 := hR3.kept hL3 (.inr (fun he => by rcases HS.out g he.symm with h | h <;> omega)) k2
        have hS4 := Lib.hid (show ∀ q, v'.ownBlock = some q → q = w.heap.size ∨ wc.heap.size ≤ q from fun q hq => by
          rcases k4 with h | ⟨p, h, hp⟩
          · exact HS.out q (h ▸ hq)
          · rw [h] at hq
            injection hq with hq
            omega)
        exact ⟨⟨k + 1, by omega, by go_num, by rw [Hst.out]; exact k1, hS4, hR4, (k3.cell (p := ⟨ab, 0, none⟩) hab).trans hz3, hb4.trans k3, Nat.le_trans hsz3 k3.size⟩, by simp [intOf]; omega⟩
      · rw [if_neg hc] at hst
        rw [decide_eq_false hc] at hclo
        have Hst := Lib.hid hst
        clear hst hc
        go_wp2_with (go_at_call 146; refine hclo.mono ?_; rintro e w3 ⟨rfl, hb3⟩)
        exact ⟨⟨k + 1, by omega, by go_num, by rw [Hst.out]; exact hL.on hb3, HS, hR.on hb3, (hb3.cell (Nat.lt_of_lt_of_le hab hb.size)).trans hz, hb.trans (hb3.mono hb.size), Nat.le_trans hsz hb3.size⟩, by simp [intOf]; omega⟩
    · have hke : k = (comps G).length := by omega
      subst hke
      rw [List.take_length] at hL
      go_wp2_with fail
      refine (unionAll_any _ _ _ (hL.less (Nat.zero_le _))).mono ?_
      rintro e w3 ⟨z, rfl, hZ, hb3⟩
      rw [small_canon] at hZ
      go_wp2
      go_ret
      exact ⟨_, rfl, by rw [HG.out]; exact hZ.less hb.size, hb.trans (hb3.mono hb.size)⟩

set_option maxHeartbeats 800000 in
/-- SelectSmall. -/
theorem select_small (v : Value) (rs : List Rc) (n : Int) (w : World) (hv : RL w 0 v rs) : Calls Tryz.prog 118 #[v, .int .i64 n] w fun e w' => ∃ u, e = .returned u ∧ RL w' w.heap.size u (if isReg rs = true then canon (smallG n (comps (cellsG rs))) else []) ∧ Below w.heap.size w w' := by
  have c0 := (Bk.new w 2 #[.int .i64 n]).cell 0
  have b0 := (Below.refl w.heap.size w).alloc (Nat.le_refl _) (.cells #[.int .i64 n] 2)
  have hv0 := RL.alloc hv (.cells #[.int .i64 n] 2)
  have hs0 : w.heap.size < (w.alloc (.cells #[.int .i64 n] 2)).heap.size := by simp
  by_cases h : isReg rs = true
  · rw [if_pos h]
    go_enter Tryz.func118, Tryz.ntmps118
    go_wp2_with fail
    refine (isRegion_any v rs _ hv0).mono ?_
    rintro e w1 ⟨rfl, hb1⟩
    rw [h]
    have b1 := b0.trans (hb1.mono b0.size)
    go_wp2_with fail
    refine (choose_small v rs n w.heap.size _ (hv0.on hb1) ((hb1.cell hs0).trans c0) (Nat.lt_of_lt_of_le hs0 hb1.size)).mono ?_
    rintro e w2 ⟨u, rfl, hU, hb2⟩
    go_wp2
    go_ret
    exact ⟨_, rfl, hU.less b1.size, b1.trans (hb2.mono b1.size)⟩
  · have h' : isReg rs = false := by simpa using h
    rw [if_neg h]
    go_enter Tryz.func118, Tryz.ntmps118
    go_wp2_with (go_at_call 22; refine (isRegion_any v rs _ hv0).mono ?_; rintro e w1 ⟨rfl, hb1⟩; rw [h'])
    go_ret
    exact ⟨_, rfl, RL.nil _ _, b0.trans (hb1.mono b0.size)⟩

set_option maxHeartbeats 800000 in
/-- MarkArea of the program. -/
theorem markArea_impl (v : Value) (rs : List Rc) (n : Int) (w : World) (hv : RL w 0 v rs) : Calls Tryz.prog 87 #[v, .int .i64 n] w fun e w' => ∃ u, e = .returned u ∧ RL w' w.heap.size u (areaMV rs n) ∧ Below w.heap.size w w' := by
  by_cases h1 : 1 ≤ n ∧ n ≤ 6400
  · have hB : inB 1 n 6400 = true := decide_eq_true h1
    have e : areaMV rs n = if isReg rs = true then canon (smallG n (comps (cellsG rs))) else [] := by
      unfold areaMV
      by_cases h : isReg rs = true <;> simp [h, h1]
    have key := select_small v rs n w hv
    rw [← e] at key
    clear e
    go_enter Tryz.func87, Tryz.ntmps87
    go_wp2_with fail
    refine (within_any _ _ _ _).mono ?_
    rintro e w1 ⟨rfl, rfl⟩
    rw [hB]
    go_wp2_with fail
    refine key.mono ?_
    rintro e w2 ⟨u, rfl, hU, hb2⟩
    go_wp2
    go_ret
    exact ⟨_, rfl, hU, hb2⟩
  · have hB : inB 1 n 6400 = false := decide_eq_false h1
    rw [areaMV_no (fun hc => h1 hc.2)]
    go_enter Tryz.func87, Tryz.ntmps87
    go_wp2_with (go_at_call 23; refine (within_any _ _ _ _).mono ?_; rintro e w1 ⟨rfl, rfl⟩; rw [hB])
    go_ret
    exact ⟨_, rfl, RL.nil _ _, Below.refl _ _⟩

end Go.Proofs.YtjiljodchebniaaGreat

namespace Go.Proofs.YtjiljodchebniaaGreat
open Go.RowKit

theorem flat_cells {w : World} {B : Nat} {u : Value} {qs : List Rc} (hu : RL w B u qs) (hne : qs ≠ []) : ∃ g cap, u = .slice (some ⟨g, 0, none⟩) qs.length cap ∧ ∀ (j : Nat) (y : Value), (flatR qs)[j]? = some y → w.cell? ⟨g, j, none⟩ = some y := by
  unfold RL at hu
  rcases hu.2 with ⟨hv, hn⟩ | ⟨g, cap, cur, hv, hg, hh, hnc, hcm, hcs, htake⟩
  · exact absurd (List.length_eq_zero_iff.1 hn) hne
  · refine ⟨g, cap, hv, fun j y hy => ?_⟩
    rw [cell_of_row w g j cur _ (0, 0) hh]
    rw [← htake, List.getElem?_take] at hy
    split at hy
    · simpa using hy
    · cases hy
theorem flat_one (qs : List Rc) : ∀ y ∈ flatR qs, y.oneCell' = true := by
  intro y hy
  simp only [flatR, List.mem_flatMap, Rc.vals] at hy
  obtain ⟨r, _, hy⟩ := hy
  simp at hy
  rcases hy with rfl | rfl | rfl | rfl <;> rfl
/-- 'append(list, more...)' in a region that draws its order. -/
theorem step_append_RR {W : World} {ops : Array Oper} {o : Oper} {a : Act} {K : Act → World → Prop} {Q : Exit → Act → World → Prop} {E : Prop} (hgd : o.guard = none) (s x : Operand)
    (ho : o.op = .call { callee := .builtin .append, args := #[s, x], argTypes := #[24, 24] })
    (B B' : Nat) (v u : Value) (rs qs : List Rc) (hs : a.eval s = v) (hown : RL W B v rs) (hx : a.eval x = u) (hu : RL W B' u qs) (hne : qs ≠ [])
    (hlen : rs.length + qs.length ≤ 1000000) (hB : B ≤ W.heap.size)
    (h : ∀ v' w', RL w' B v' (rs ++ qs) → W.grownBy w' v.ownBlock → Below B W w' → K (a.put o.dst v') w') :
    if Region.wanted o (yielded ops a.tmps) = true then Oper.wp Tryz.prog o a W K Q else E := by
  obtain ⟨i, hi, hz, hsz, hby⟩ := info_parts infoRect
  obtain ⟨g, cap, rfl, hc⟩ := flat_cells hu hne
  rw [if_pos (by simp [Region.wanted, hgd])]
  refine wp_append_own _ s x 24 ho B 75 i _ 4 32 Tryz.underlying24 hi hz hsz hby rfl (by decide) v rs.length (flatR rs) hs hown ⟨g, 0, none⟩ qs.length cap
    (flatR qs) hx (flatR_length qs) ?_ (flat_one qs) (by simp only [maxLen]; omega) (by omega) hB ?_
  · intro j u hu
    rw [Addr.add_lit, Nat.zero_add]
    exact hc j u hu
  · intro v' w' h1 h2 _
    refine h v' w' ?_ h2 (below_own hown h2 hB)
    unfold RL
    rw [flatR_append, List.length_append]
    exact h1
theorem RL.lit0 (w : World) {B : Nat} (hB : B ≤ w.heap.size) : RL (w.alloc (.cells #[] 75)) B (.slice (some ⟨w.heap.size, 0, none⟩) 0 0) [] := World.ownsRow_lit w #[] 0 hB (by simp [maxLen]) rfl

/-- What lies in memory for a violation that was copied. -/
def CopyOf (w : World) (k : Int) (rs : List Rc) (e : Ending) (w' : World) : Prop := ∃ u, e = .returned (.agg #[.int .i64 k, u]) ∧ RL w' w.heap.size u rs ∧ Below w.heap.size w w'

/-- 'out = append(out, v)' on a list of violations of the call's own. -/
theorem wpList_append_XW {w : World} {ops : Array Oper} {rest : List Oper} {o : Oper} {a : Act} {Q : Exit → Act → World → Prop} (hgd : o.guard = none) (s x : Operand)
    (ho : o.op = .call { callee := .builtin .append, args := #[s, x], argTypes := #[35, 35] })
    (B : Nat) (v : Value) (us : List Value) (vs : List (Int × List Rc)) (hs : a.eval s = v) (hown : XW w B v us vs) (k : Int) (u : Value) (rs : List Rc) (hu : RL w B u rs) (hx : a.eval x = .slice (some ⟨w.heap.size, 0, none⟩) 1 1) (hlen : vs.length ≤ 1000000) (hB : B ≤ w.heap.size)
    (h : ∀ v' w', XW w' B v' (us ++ [u]) (vs ++ [(k, rs)]) → Below B w w' → wpList Tryz.prog ops Q rest (a.put o.dst v') w') :
    wpList Tryz.prog ops Q (o :: rest) a (w.alloc (.cells #[.int .i64 k, u] 45)) := by
  have hone : u.oneCell' = true := by obtain ⟨A, c, rfl, _⟩ := hu.form; rfl
  obtain ⟨i, hi, hz, hsz, hby⟩ := info_parts infoVio
  refine wpList_append_own_at _ hgd s x 35 ho B 45 i _ 2 32 Tryz.underlying35 hi hz hsz hby rfl (by decide) v vs.length (flatV vs us) hs (World.ownsRow.alloc hown.own _) ⟨w.heap.size, 0, none⟩ 1 1
    [.int .i64 k, u] hx rfl ?_ ?_ (by simp only [maxLen]; omega) (by omega) (by simp; omega) ?_
  · intro j y hy
    rw [Addr.add_lit, World.cell?_alloc_new]
    simpa using hy
  · intro y hy
    simp at hy
    rcases hy with rfl | rfl
    · rfl
    · exact hone
  · intro v' w' h1 h2 _ _
    have h3 := grown_of_alloc h2
    refine h v' w' ⟨by simp [hown.len], ?_, fun j y q hy hq => ?_⟩ (below_own hown.own h3 hB)
    · rw [flatV_append _ _ _ _ hown.len, List.length_append]
      exact h1
    · by_cases hj : j < vs.length
      · rw [List.getElem?_append_left (by rw [hown.len]; exact hj)] at hy
        rw [List.getElem?_append_left hj] at hq
        have hr := hown.each j y q hy hq
        exact World.ownsRow.kept hr h3 (own_apart hr hown.own (by decide))
      · have hke : j = vs.length := by have := (List.getElem?_eq_some_iff.1 hq).1; simp at this; omega
        subst hke
        rw [List.getElem?_append_right (by rw [hown.len]; exact Nat.le_refl _), hown.len, Nat.sub_self] at hy
        rw [List.getElem?_append_right (Nat.le_refl _), Nat.sub_self] at hq
        simp at hy hq
        subst hy hq
        exact World.ownsRow.kept hu h3 (own_apart hu hown.own (by decide))
theorem XW.lit0 (w : World) {B : Nat} (hB : B ≤ w.heap.size) : XW (w.alloc (.cells #[] 45)) B (.slice (some ⟨w.heap.size, 0, none⟩) 0 0) [] [] := ⟨rfl, World.ownsRow_lit w #[] 0 hB (by simp [maxLen]) rfl, fun k u q hu => by simp at hu⟩

end Go.Proofs.YtjiljodchebniaaGreat
