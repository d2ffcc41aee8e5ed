/- Contracts: MarkerUnion of the reference and of the program. Condition: a list of violations in memory. -/
import Derived.Test.YtbljapihmkmolaaCount
import Derived.Test.YtbljapihmkmolaaUnion
import Derived.Test.YtbljapihmkmolaaLawB
namespace Go.Proofs.Ytbljapihmkmolaa
open Go.RowKit

/-- The slice value v, of the call's own, holds lists of rectangles that lie wherever. -/
def RLF (w : World) (B : Nat) (v : Value) (rss : List (List Rc)) : Prop := ∃ vs, VL w B 27 v vs ∧ vs.length = rss.length ∧ ∀ (k : Nat) (u : Value) (rs : List Rc), vs[k]? = some u → rss[k]? = some rs → RL w 0 u rs
theorem RLF.on {w w' : World} {B : Nat} {v : Value} {rss : List (List Rc)} (h : RLF w B v rss) (hb : Below w.heap.size w w') : RLF w' B v rss := let ⟨vs, h1, h2, h3⟩ := h; ⟨vs, h1.on hb, h2, fun k u rs hu hr => (h3 k u rs hu hr).on hb⟩
theorem RLF.all {w : World} {B : Nat} {v : Value} {rss : List (List Rc)} (h : RLF w B v rss) : RLL w 0 v rss := let ⟨vs, h1, h2, h3⟩ := h; ⟨vs, h1.less (Nat.zero_le _), h2, h3⟩
theorem RLF.form {w : World} {B : Nat} {v : Value} {rss : List (List Rc)} (h : RLF w B v rss) : ∃ A cap, v = .slice A rss.length cap := by obtain ⟨A, cap, hv, _⟩ := h.all.form; exact ⟨A, cap, hv⟩
theorem RLF.lit0 (w : World) {B : Nat} (hB : B ≤ w.heap.size) : RLF (w.alloc (.cells #[] 27)) B (.slice (some ⟨w.heap.size, 0, none⟩) 0 0) [] := ⟨[], World.ownsRow_lit w #[] 0 hB (by simp [maxLen]) rfl, rfl, fun k u rs hu => by simp at hu⟩
theorem wpList_append_RLF {w : World} {ops : Array Oper} {rest : List Oper} {o : Oper} {a : Act} {Q : Exit → Act → World → Prop} (hgd : o.guard = none) (s x : Operand)
    (ho : o.op = .call { callee := .builtin .append, args := #[s, x], argTypes := #[68, 68] })
    (B : Nat) (v : Value) (rss : List (List Rc)) (hs : a.eval s = v) (hown : RLF w B v rss) (u : Value) (rs : List Rc) (hu : RL w 0 u rs) (hx : a.eval x = .slice (some ⟨w.heap.size, 0, none⟩) 1 1) (hlen : rss.length ≤ 1000000) (hB : B ≤ w.heap.size)
    (h : ∀ v' w', RLF w' B v' (rss ++ [rs]) → w.grownBy w' v.ownBlock → Below B w w' → wpList Try.prog ops Q rest (a.put o.dst v') w') :
    wpList Try.prog ops Q (o :: rest) a (w.alloc (.cells #[u] 27)) := by
  obtain ⟨vs, h1, h2, h3⟩ := hown
  have hone : u.oneCell' = true := by obtain ⟨A, c, rfl, _⟩ := hu.form; rfl
  refine wpList_append_G hgd s x 27 68 1 24 _ infoRects Try.underlying68 rfl (by decide) (by decide) ho B v vs.length vs hs h1 [u] rfl (by simpa using hone) hx (by omega) hB ?_
  intro v' w' k1 k2 k3
  refine h v' w' ⟨vs ++ [u], by unfold VL; rw [List.length_append]; exact k1, by simp [h2], fun k y qs hy hq => ?_⟩ k2 k3
  by_cases hk : k < vs.length
  · rw [List.getElem?_append_left hk] at hy
    rw [List.getElem?_append_left (by omega)] at hq
    have hr := h3 k y qs hy hq
    exact World.ownsRow.kept hr k2 (own_apart hr h1 (by decide))
  · have hke : k = vs.length := by have := (List.getElem?_eq_some_iff.1 hy).1; simp at this; omega
    subst hke
    rw [List.getElem?_append_right (Nat.le_refl _), Nat.sub_self] at hy
    rw [List.getElem?_append_right (by omega), h2, Nat.sub_self] at hq
    simp at hy hq
    subst hy hq
    exact World.ownsRow.kept hu k2 (own_apart hu h1 (by decide))

/-- The markers of a rule. -/
def selL (vs : List (Int × List Rc)) (r : Int) : List (List Rc) := (vs.filter fun q => decide (q.1 = r)).map Prod.snd
theorem sel_yes {vs : List (Int × List Rc)} {k : Nat} {q : Int × List Rc} {r : Int} (h : vs[k]? = some q) (hr : q.1 = r) : selL (vs.take (k + 1)) r = selL (vs.take k) r ++ [q.2] := by
  unfold selL
  rw [List.take_add_one, h, Option.toList, List.filter_append, List.map_append, List.filter_cons, if_pos (decide_eq_true hr)]
  rfl
theorem sel_no {vs : List (Int × List Rc)} {k : Nat} {q : Int × List Rc} {r : Int} (h : vs[k]? = some q) (hr : q.1 ≠ r) : selL (vs.take (k + 1)) r = selL (vs.take k) r := by
  unfold selL
  rw [List.take_add_one, h, Option.toList, List.filter_append, List.map_append, List.filter_cons, if_neg (by simpa using hr)]
  simp
theorem sel_len (vs : List (Int × List Rc)) (k : Nat) (r : Int) : (selL (vs.take k) r).length ≤ k := by
  unfold selL
  rw [List.length_map]
  exact Nat.le_trans (List.length_filter_le _ _) (by rw [List.length_take]; omega)
noncomputable def muV (vs : List (Int × List Rc)) (r : Int) : List Rc := if repB okV vs = true then canon (cellsG (selL vs r).flatten) else []
theorem muV_yes {vs : List (Int × List Rc)} {r : Int} (h : repB okV vs = true) : muV vs r = canon (cellsG (selL vs r).flatten) := if_pos h
theorem muV_no {vs : List (Int × List Rc)} {r : Int} (h : repB okV vs = false) : muV vs r = [] := if_neg (by rw [h]; simp)
theorem muV_length (vs : List (Int × List Rc)) (r : Int) : (muV vs r).length ≤ 1000000 := by
  unfold muV
  split
  · have := canon_few (cellsG (selL vs r).flatten)
    omega
  · simp
theorem cells_sel {vs : List (Int × List Rc)} {k : Nat} {q : Int × List Rc} {r : Int} (h : vs[k]? = some q) (hr : q.1 = r) : cellsG (selL (vs.take (k + 1)) r).flatten = unionG (cellsG (selL (vs.take k) r).flatten) (cellsG q.2) := by
  rw [sel_yes h hr, List.flatten_append, cellsG_append, List.flatten_cons, List.flatten_nil, List.append_nil]

set_option maxHeartbeats 1600000 in
set_option maxRecDepth 100000 in
theorem mu_spec (v : Value) (us : List Value) (vs : List (Int × List Rc)) (r : Int) (w : World) (hv : XW w 0 v us vs) :
    Calls Try.prog 28 #[v, .int .i64 r] w fun e w' => ∃ u, e = .returned u ∧ RL w' w.heap.size u (muV vs r) ∧ Below w.heap.size w w' := by
  cases hr : repB okV vs with
  | false =>
    rw [muV_no hr]
    go_enter Try.func28, Try.ntmps28
    go_wp2_with fail
    refine (report_spec v us vs _ hv).mono ?_
    rintro e w1 ⟨rfl, hb1⟩
    rw [hr]
    go_wp2
    go_ret
    exact ⟨_, rfl, RL.nil _ _, hb1⟩
  | true =>
    rw [muV_yes hr]
    have Hlen := rep_len hr
    obtain ⟨A, c, rfl, -, -⟩ := hv.form
    go_enter Try.func28, Try.ntmps28
    go_wp2_with fail
    refine (report_spec _ us vs _ hv).mono ?_
    rintro e w1 ⟨rfl, hb1⟩
    rw [hr]
    have Hr := Lib.hid hr
    have HV := Lib.hid hv
    clear hr hv
    go_wp2_with fail
    refine (l03Bits_any (.slice none 0 0) [] _ (RL.nil _ _) rfl).mono ?_
    rintro e w2 ⟨z, rfl, hG, hb2⟩
    have hG0 : GS w2 w.heap.size z (cellsG (selL (vs.take 0) r).flatten) := hG.less hb1.size
    have b2 := hb1.trans (hb2.mono hb1.size)
    clear hG hb1 hb2
    go_wp2
    go_loopw [5, 6] (fun bv iv wr => ∃ k : Nat, k ≤ vs.length ∧ iv = .int .i64 k ∧ GS wr w.heap.size bv (cellsG (selL (vs.take k) r).flatten) ∧ Below w.heap.size w wr) (fun _ iv _ => vs.length - (intOf iv).toNat)
    case atStart => exact ⟨0, Nat.zero_le _, rfl, hG0, b2⟩
    case round =>
      obtain ⟨k, hk, rfl, hG, hb⟩ := hrel
      clear hG0 b2
      by_cases hlt : k < vs.length
      · obtain ⟨q, hq⟩ : ∃ q, vs[k]? = some q := ⟨_, List.getElem?_eq_getElem hlt⟩
        obtain ⟨g, u, rfl, -, -, -, f0, f1, hR⟩ := (HV.out.on hb).elem hq
        have Hok := Lib.hid (okV_ok (rep_rule Hr.out hq).1)
        obtain ⟨Au, cu, rfl, -, -, -⟩ := hR.form
        have hk9 : k < 9223372036854775807 := by omega
        by_cases hqr : q.1 = r
        · have Hst := Lib.hid (cells_sel hq hqr)
          have hbb : (q.1 == r) = true := by simpa using hqr
          clear hq hqr
          go_wp2_with fail
          refine (l03Bits_any _ q.2 _ hR Hok.out).mono ?_
          rintro e w3 ⟨z3, rfl, hG3, hb3⟩
          replace hG := hG.on hb3
          have b3 := hb.trans (hb3.mono hb.size)
          clear f0 f1 hR hb
          go_wp2_with fail
          refine (combine_any _ _ 14 (.inl rfl) _ _ _ (hG.less (Nat.zero_le _)) (hG3.less (Nat.zero_le _))).mono ?_
          rintro e w4 ⟨z4, rfl, hG4, hb4⟩
          rw [tab14, ← Hst.out] at hG4
          go_wp2
          exact ⟨⟨k + 1, by omega, by go_num, hG4.less b3.size, b3.trans (hb4.mono b3.size)⟩, by simp [intOf]; omega⟩
        · have Hst := Lib.hid (sel_no hq hqr)
          have hbb : (q.1 == r) = false := by simpa using hqr
          clear hq hqr
          go_wp2
          exact ⟨⟨k + 1, by omega, by go_num, by rw [Hst.out]; exact hG, hb⟩, by simp [intOf]; omega⟩
      · have hke : k = vs.length := by omega
        subst hke
        rw [List.take_length] at hG
        go_wp2_with fail
        refine (l03Canon_any _ _ _ (hG.less (Nat.zero_le _))).mono ?_
        rintro e w3 ⟨z3, rfl, hR3, hb3⟩
        go_wp2
        go_ret
        exact ⟨_, rfl, hR3.less hb.size, hb.trans (hb3.mono hb.size)⟩

set_option maxHeartbeats 1600000 in
set_option maxRecDepth 100000 in
theorem mu_impl (v : Value) (us : List Value) (vs : List (Int × List Rc)) (r : Int) (w : World) (hv : XW w 0 v us vs) :
    Calls Try.prog 29 #[v, .int .i64 r] w fun e w' => ∃ u, e = .returned u ∧ RL w' w.heap.size u (muV vs r) ∧ Below w.heap.size w w' := by
  cases hr : repB okV vs with
  | false =>
    rw [muV_no hr]
    go_enter Try.func29, Try.ntmps29
    go_wp2_with fail
    refine (report_impl v us vs _ hv).mono ?_
    rintro e w1 ⟨rfl, hb1⟩
    rw [hr]
    go_wp2
    go_ret
    exact ⟨_, rfl, RL.nil _ _, hb1⟩
  | true =>
    rw [muV_yes hr]
    have Hlen := rep_len hr
    obtain ⟨A, c, rfl, -, -⟩ := hv.form
    go_enter Try.func29, Try.ntmps29
    go_wp2_with fail
    refine (report_impl _ us vs _ hv).mono ?_
    rintro e w1 ⟨rfl, hb1⟩
    rw [hr]
    have Hr := Lib.hid hr
    have HV := Lib.hid hv
    have hL0 : RLF (w1.alloc (.cells #[] 27)) w.heap.size (.slice (some ⟨w1.heap.size, 0, none⟩) 0 0) (selL (vs.take 0) r) := RLF.lit0 w1 hb1.size
    have b2 := hb1.alloc hb1.size (.cells #[] 27)
    clear hr hv hb1
    go_wp2
    go_loopw [5, 14] (fun lv iv wr => ∃ k : Nat, k ≤ vs.length ∧ iv = .int .i64 k ∧ RLF wr w.heap.size lv (selL (vs.take k) r) ∧ Below w.heap.size w wr) (fun _ iv _ => vs.length - (intOf iv).toNat)
    case atStart => exact ⟨0, Nat.zero_le _, rfl, hL0, b2⟩
    case round =>
      obtain ⟨k, hk, rfl, hL, hb⟩ := hrel
      clear hL0 b2
      by_cases hlt : k < vs.length
      · obtain ⟨q, hq⟩ : ∃ q, vs[k]? = some q := ⟨_, List.getElem?_eq_getElem hlt⟩
        obtain ⟨g, u, rfl, -, -, -, f0, f1, hR⟩ := (HV.out.on hb).elem hq
        obtain ⟨Au, cu, rfl, -, -, -⟩ := hR.form
        have hk9 : k < 9223372036854775807 := by omega
        have hL2 := hL.on ((Below.refl _ _).alloc (Nat.le_refl _) (.cells #[.int .i64 q.1, .slice Au q.2.length cu] 29))
        have hb2 := hb.alloc hb.size (.cells #[.int .i64 q.1, .slice Au q.2.length cu] 29)
        have hR2 := RL.alloc hR (.cells #[.int .i64 q.1, .slice Au q.2.length cu] 29)
        by_cases hqr : q.1 = r
        · have Hst := Lib.hid (sel_yes hq hqr)
          have hbb : (q.1 == r) = true := by simpa using hqr
          have hsl : (selL (vs.take k) r).length ≤ 1000000 := by have := sel_len vs k r; omega
          have hbs := hb2.size
          obtain ⟨Al, cl, hlv⟩ := hL2.form
          subst hlv
          have HL2 := Lib.hid hL2
          have HS := Lib.hid (show (wr.alloc (.cells #[.int .i64 q.1, .slice Au q.2.length cu] 29)).heap.size = wr.heap.size + 1 by simp)
          clear hq hqr hL hb hR hL2
          go_wp2_with (at_builtin; refine wpList_append_RLF rfl (.tmp 22) (.tmp 25) rfl w.heap.size _ (selL (vs.take k) r) rfl HL2.out _ q.2 hR2 (by rw [HS.out]; rfl) hsl hbs ?_; intro v' w' k1 k2 k3)
          rw [← Hst.out] at k1
          exact ⟨⟨k + 1, by omega, by go_num, k1, hb2.trans k3⟩, by simp [intOf]; omega⟩
        · have Hst := Lib.hid (sel_no hq hqr)
          have hbb : (q.1 == r) = false := by simpa using hqr
          clear hq hqr hR hR2
          go_wp2
          exact ⟨⟨k + 1, by omega, by go_num, by rw [Hst.out]; exact hL2, hb2⟩, by simp [intOf]; omega⟩
      · have hke : k = vs.length := by omega
        subst hke
        rw [List.take_length] at hL
        go_wp2_with fail
        refine (unionAll_any _ _ _ hL.all).mono ?_
        rintro e w3 ⟨z3, rfl, hR3, hb3⟩
        go_wp2
        go_ret
        exact ⟨_, rfl, hR3.less hb.size, hb.trans (hb3.mono hb.size)⟩

end Go.Proofs.Ytbljapihmkmolaa
