/- The markers of an area rule: plain law, and the contract of the reference's MarkArea. No conditions. -/
import Derived.Test.YtbljapihmkmolaaGreatCompsS
import Derived.Test.YtbljapihmkmolaaGreatDrawK
namespace Go.Proofs.YtbljapihmkmolaaGreat
open Go.RowKit

def smallStep (n : Int) (o P : Gr) : Gr := if countG P < n then unionG o P else o
/-- The cells of the sets with fewer than n cells. -/
def smallG (n : Int) (Gs : List Gr) : Gr := Gs.foldl (smallStep n) emptyG
def fewGs (n : Int) (Gs : List Gr) : List Gr := Gs.filter fun P => decide (countG P < n)
def smallL (n : Int) (Gs : List Gr) : List (List Rc) := (fewGs n Gs).map canon
theorem smallG_step (n : Int) {Gs : List Gr} {k : Nat} {P : Gr} (h : Gs[k]? = some P) : smallG n (Gs.take (k + 1)) = smallStep n (smallG n (Gs.take k)) P := by
  unfold smallG
  rw [List.take_add_one, h, Option.toList, List.foldl_append]; rfl
theorem smallL_step (n : Int) {Gs : List Gr} {k : Nat} {P : Gr} (h : Gs[k]? = some P) : smallL n (Gs.take (k + 1)) = if countG P < n then smallL n (Gs.take k) ++ [canon P] else smallL n (Gs.take k) := by
  unfold smallL fewGs
  rw [List.take_add_one, h, Option.toList, List.filter_append, List.map_append]
  by_cases hc : countG P < n
  · simp [hc]
  · simp [hc]
theorem smallL_length (n : Int) (Gs : List Gr) (k : Nat) : (smallL n (Gs.take k)).length ≤ k := by
  unfold smallL fewGs
  rw [List.length_map]
  exact Nat.le_trans (List.length_filter_le _ _) (by rw [List.length_take]; omega)
theorem small_fold (n : Int) : ∀ (Gs : List Gr) (o : Gr), sameG (unionG o (cellsG (smallL n Gs).flatten)) (Gs.foldl (smallStep n) o)
  | [], o => fun i _ => by simp [smallL, fewGs, unionG, cellsG]
  | P :: Gs, o => by
    intro i hi
    rw [List.foldl_cons, ← small_fold n Gs (smallStep n o P) i hi]
    unfold smallStep smallL fewGs
    by_cases hc : countG P < n
    · rw [List.filter_cons_of_pos (by simpa using hc), List.map_cons, List.flatten_cons, cellsG_append, if_pos hc]
      unfold unionG
      rw [cells_canon P i hi, Bool.or_assoc]
    · rw [List.filter_cons_of_neg (by simpa using hc), if_neg hc]
theorem small_canon (n : Int) (Gs : List Gr) : canon (cellsG (smallL n Gs).flatten) = canon (smallG n Gs) := by
  refine canon_congr fun i hi => ?_
  have := small_fold n Gs emptyG i hi
  unfold smallG
  rw [← this]
  simp [unionG, emptyG]
/-- The markers of an area rule. -/
noncomputable def areaMV (rs : List Rc) (n : Int) : List Rc := if isReg rs = true ∧ 1 ≤ n ∧ n ≤ 6400 then canon (smallG n (comps (cellsG rs))) else []
theorem areaMV_yes {rs : List Rc} {n : Int} (h : isReg rs = true) (h1 : 1 ≤ n) (h2 : n ≤ 6400) : areaMV rs n = canon (smallG n (comps (cellsG rs))) := if_pos ⟨h, h1, h2⟩
theorem areaMV_no {rs : List Rc} {n : Int} (h : ¬ (isReg rs = true ∧ 1 ≤ n ∧ n ≤ 6400)) : areaMV rs n = [] := if_neg h
theorem areaMV_length (rs : List Rc) (n : Int) : (areaMV rs n).length ≤ 1000000 := by
  unfold areaMV
  split
  · have := canon_length (smallG n (comps (cellsG rs))); omega
  · simp

set_option maxHeartbeats 1600000 in
set_option maxRecDepth 100000 in
theorem markArea_spec (v : Value) (rs : List Rc) (n : Int) (w : World) (hv : RL w 0 v rs) : Calls Tryz.prog 56 #[v, .int .i64 n] w fun e w' => ∃ u, e = .returned u ∧ RL w' w.heap.size u (areaMV rs n) ∧ Below w.heap.size w w' := by
  by_cases h : isReg rs = true
  · by_cases h1 : 1 ≤ n
    · by_cases h2 : n ≤ 6400
      · rw [areaMV_yes h h1 h2]
        have hok := okAll_reg h
        have Hlen := Lib.hid (comps_length (cellsG rs))
        have hmk := run_make_6400
        go_enter Tryz.func56, Tryz.ntmps56
        go_wp2_with fail
        refine (l03Ok_any v rs _ hv).mono ?_
        rintro e w1 ⟨rfl, hb1⟩
        rw [h]
        have hv1 := (hv.on hb1).on ((Below.refl w1.heap.size w1).alloc (Nat.le_refl _) (.cells noCells 4))
        have hb1' := hb1.alloc hb1.size (.cells noCells 4)
        have hO1 : GS (w1.alloc (.cells noCells 4)) w.heap.size (.slice (some ⟨w1.heap.size, 0, none⟩) 6400 6400) (smallG n ((comps (cellsG rs)).take 0)) := ⟨w1.heap.size, 6400, rfl, hb1.size, GB.made w1 _⟩
        go_wp2_with fail
        refine (l03Bits_any v rs _ hv1 hok).mono ?_
        rintro e w2 ⟨u2, rfl, hG, hb2⟩
        clear hmk
        go_wp2_with fail
        refine (comps_spec u2 (cellsG rs) _ (GS.less hG (Nat.zero_le _))).mono ?_
        rintro e w3 ⟨u, rfl, hU, hb3⟩
        have hO3 := (hO1.on hb2).on hb3
        have hb2' := hb1'.trans (hb2.mono hb1'.size)
        have hb3' := hb2'.trans (hb3.mono hb2'.size)
        replace hU := hU.less (Nat.zero_le _)
        generalize hGe : cellsG rs = G at *
        obtain ⟨A, c, hua, hc, hm⟩ := hU.form
        subst hua
        have hm' : (comps G).length ≤ 9223372036854775807 := by have := Hlen.out; omega
        have HG := Lib.hid hGe
        clear hv hv1 hb1 hb1' hb2' hb2 hb3 hG hO1 hGe h hok
        go_wp2
        go_loopw [5, 7] (fun ov iv wr => ∃ k : Nat, k ≤ (comps G).length ∧ iv = .int .i64 k ∧ GS wr w.heap.size ov (smallG n ((comps G).take k)) ∧ GSL wr 0 (.slice A (comps G).length c) (comps G) ∧ Below w.heap.size w wr) (fun _ iv _ => (comps G).length - (intOf iv).toNat)
        case atStart => exact ⟨0, Nat.zero_le _, rfl, hO3, hU, hb3'⟩
        case round =>
          obtain ⟨k, hk, rfl, hO, hR, hb⟩ := hrel
          clear hU hb3' hO3
          obtain ⟨go, co, hov, hgo, hgb⟩ := hO
          subst hov
          have hO : GS _ w.heap.size _ _ := ⟨go, co, rfl, hgo, hgb⟩
          by_cases hlt : k < (comps G).length
          · obtain ⟨g, u, P, rfl, hP, hg, f0, hQ⟩ := hR.elem (k := k) hlt
            have hst := smallG_step n hP
            have hcnt := l19Count_any _ P _ hQ
            have hcb := count_bounds P
            unfold smallStep at hst
            by_cases hc : countG P < n
            · rw [if_pos hc] at hst
              have Hst := Lib.hid hst
              generalize countG P = m at *
              clear hst hP
              go_wp2_with fail
              refine hcnt.mono ?_
              rintro e w4 ⟨rfl, rfl⟩
              go_wp2_with fail
              refine (l19Or_any _ _ _ P _ (GS.less hO (Nat.zero_le _)) hQ).mono ?_
              rintro e w4 ⟨z, rfl, hZ, hb4⟩
              have hR4 := hR.on hb4
              have hb5 := hb.trans (hb4.mono hb.size)
              have hZ5 := hZ.less hb.size
              rw [← Hst.out] at hZ5
              clear hZ hb4 hR hb hO hgb hQ hcnt f0
              go_wp2
              exact ⟨⟨k + 1, by omega, by go_num, hZ5, hR4, hb5⟩, by simp [intOf]; omega⟩
            · rw [if_neg hc] at hst
              have Hst := Lib.hid hst
              generalize countG P = m at *
              clear hst hP
              go_wp2_with (go_at_call 110; refine hcnt.mono ?_; rintro e w4 ⟨rfl, rfl⟩)
              exact ⟨⟨k + 1, by omega, by go_num, by rw [Hst.out]; exact hO, hR, hb⟩, by simp [intOf]; omega⟩
          · have hke : k = (comps G).length := by omega
            subst hke
            rw [List.take_length] at hO
            go_wp2_with fail
            refine (l03Canon_any _ _ _ (GS.less hO (Nat.zero_le _))).mono ?_
            rintro e w4 ⟨z, rfl, hZ, hb4⟩
            go_wp2
            go_ret
            exact ⟨_, rfl, HG.out ▸ hZ.less hb.size, hb.trans (hb4.mono hb.size)⟩
      · rw [areaMV_no (fun hc => h2 hc.2.2)]
        go_enter Tryz.func56, Tryz.ntmps56
        go_wp2_with (go_at_call 87; refine (l03Ok_any v rs _ hv).mono ?_; rintro e w1 ⟨rfl, hb1⟩; rw [h])
        go_ret
        exact ⟨_, rfl, World.ownsRow_lit _ #[] 0 hb1.size (by simp [maxLen]) rfl, hb1.alloc hb1.size _⟩
    · rw [areaMV_no (fun hc => h1 hc.2.1)]
      go_enter Tryz.func56, Tryz.ntmps56
      go_wp2_with (go_at_call 87; refine (l03Ok_any v rs _ hv).mono ?_; rintro e w1 ⟨rfl, hb1⟩; rw [h])
      go_ret
      exact ⟨_, rfl, World.ownsRow_lit _ #[] 0 hb1.size (by simp [maxLen]) rfl, hb1.alloc hb1.size _⟩
  · have h' : isReg rs = false := by simpa using h
    rw [areaMV_no (fun hc => h hc.1)]
    go_enter Tryz.func56, Tryz.ntmps56
    go_wp2_with (go_at_call 87; refine (l03Ok_any v rs _ hv).mono ?_; rintro e w1 ⟨rfl, hb1⟩; rw [h'])
    go_ret
    exact ⟨_, rfl, World.ownsRow_lit _ #[] 0 hb1.size (by simp [maxLen]) rfl, hb1.alloc hb1.size _⟩

end Go.Proofs.YtbljapihmkmolaaGreat
