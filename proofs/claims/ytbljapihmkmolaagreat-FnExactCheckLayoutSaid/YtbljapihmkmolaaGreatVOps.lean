/- Contracts: the laws' helpers on lists of violations: szViolationS, toViolationS, eqViolationS, markViolationS, heldViolationS. Conditions: the lists lie in memory; bounds on their sizes. -/
import Derived.Test.YtbljapihmkmolaaGreatVList
import Derived.Test.YtbljapihmkmolaaGreatVArg
import Derived.Test.YtbljapihmkmolaaGreatVio
import Derived.Test.YtbljapihmkmolaaGreatLawKit
import Derived.StillTailTactics
namespace Go.Proofs.YtbljapihmkmolaaGreat
open Go.RowKit

section
variable {w w' : World} {B lo hi g n c : Nat} {v : Value} {us : List Value} {vs : List (Int × List Rc)}
theorem XW.set2 (h : XW w B (.slice (some ⟨g, 0, none⟩) n c) us vs) {k : Nat} (hk : k < vs.length) (q : Int × List Rc) (u : Value) (hu : RL w B u q.2) :
    XW ((w.setCell ⟨g, k * 2, none⟩ (.int .i64 q.1)).setCell ⟨g, k * 2 + 1, none⟩ u) B (.slice (some ⟨g, 0, none⟩) n c) (us.set k u) (vs.set k q) := by
  obtain ⟨A, c', e, _, _⟩ := h.form
  simp only [Value.slice.injEq] at e
  obtain ⟨_, rfl, _⟩ := e
  have key : ∀ (z : Value) (rs : List Rc), RL w B z rs → RL ((w.setCell ⟨g, k * 2, none⟩ (.int .i64 q.1)).setCell ⟨g, k * 2 + 1, none⟩ u) B z rs := fun z rs hz => by
    have hne : z.ownBlock ≠ some g := by
      rcases own_apart hz h.own (by decide) with e | e
      · rw [e]; simp
      · exact e
    exact own_other (p := ⟨g, k * 2 + 1, none⟩) (own_other (p := ⟨g, k * 2, none⟩) hz hne _) hne _
  refine ⟨by simp [h.len], ?_, fun j z r hz hr => ?_⟩
  · rw [← flatV_set _ _ _ _ _ h.len hk, List.length_set]
    exact ((World.ownsRow.stored h.own _ _).1.stored _ _).1
  · by_cases e : j = k
    · subst e
      rw [List.getElem?_set_self (by rw [h.len]; exact hk)] at hz
      rw [List.getElem?_set_self hk] at hr
      cases hz
      cases hr
      exact key _ _ hu
    · rw [List.getElem?_set_ne (fun e' => e e'.symm)] at hz hr
      exact key _ _ (h.each j z r hz hr)
theorem XW.mark (h : XW w B (.slice (some ⟨g, 0, none⟩) n c) us vs) (hap : Apart us) {j : Nat} {q : Int × List Rc} {u : Value} (hq : vs[j]? = some q) (hu : us[j]? = some u) (m : Int) {w2 : World}
    (hg : (w.setCell ⟨g, j * 2, none⟩ (.int .i64 m)).grownBy w2 u.ownBlock) {ms : List Rc} (hr : RL w2 B u ms) : XW w2 B (.slice (some ⟨g, 0, none⟩) n c) us (vs.set j (m, ms)) := by
  obtain ⟨A, c', e, _, _⟩ := h.form
  simp only [Value.slice.injEq] at e
  obtain ⟨_, rfl, _⟩ := e
  have hj : j < vs.length := (List.getElem?_eq_some_iff.1 hq).1
  have hju : j < us.length := by rw [h.len]; exact hj
  have eu : us.set j u = us := by
    apply List.ext_getElem?
    intro i
    by_cases e : i = j
    · subst e
      rw [List.getElem?_set_self hju, hu]
    · rw [List.getElem?_set_ne (fun e' => e e'.symm)]
  have f := flatV_set vs us j (m, ms) u h.len hj
  have f1 := (flatV_get vs us j q u hq hu).2
  rw [eu] at f
  have e2 : ((flatV vs us).set (j * 2) (.int .i64 m)).set (j * 2 + 1) u = (flatV vs us).set (j * 2) (.int .i64 m) := by
    apply List.ext_getElem?
    intro i
    by_cases e : i = j * 2 + 1
    · subst e
      have hlt : j * 2 + 1 < ((flatV vs us).set (j * 2) (.int .i64 m)).length := by rw [List.length_set, flatV_length vs us h.len]; omega
      rw [List.getElem?_set_self hlt, List.getElem?_set_ne (by omega), f1]
    · rw [List.getElem?_set_ne (fun e' => e e'.symm)]
  rw [e2] at f
  have hst := (World.ownsRow.stored h.own (j * 2) (.int .i64 m)).1
  refine ⟨by simp [h.len], ?_, fun i z r hz hr' => ?_⟩
  · rw [← f, List.length_set]
    have hue := h.each j u q hu hq
    refine World.ownsRow.kept hst hg ?_
    rcases own_apart hue h.own (by decide) with e | e
    · right
      rw [e]
      simp [Value.ownBlock]
    · exact .inr fun e' => e e'.symm
  · by_cases e : i = j
    · subst e
      rw [hu] at hz
      rw [List.getElem?_set_self hj] at hr'
      cases hz
      cases hr'
      exact hr
    · rw [List.getElem?_set_ne (fun e' => e e'.symm)] at hr'
      have hz' := h.each i z r hz hr'
      have hne : z.ownBlock ≠ some g := by
        rcases own_apart hz' h.own (by decide) with e | e
        · rw [e]; simp
        · exact e
      refine World.ownsRow.kept (own_other (p := ⟨g, j * 2, none⟩) hz' hne _) hg ?_
      cases hzo : z.ownBlock with
      | none => exact .inl rfl
      | some b => exact .inr fun e' => hap i j z u b e hz hu hzo e'.symm
end

theorem infoVio : (Tryz.prog.info? 102).map (fun i => (i.zero, i.size, i.bytes)) = some (some (.agg #[.int .i64 0, .slice none 0 0]), 2, 32) := by kernel_rfl
theorem flatV_zeros (n : Nat) : (madeCells #[.int .i64 0, .slice none 0 0] (n * 2)).toList = flatV (List.replicate n (0, [])) (List.replicate n (.slice none 0 0)) := by
  apply List.ext_getElem?
  intro j
  simp only [madeCells, Array.toList_map, Array.toList_range, List.getElem?_map]
  by_cases hj : j < n * 2
  · rw [List.getElem?_range hj]
    simp only [Option.map_some]
    have h2 : j / 2 < n := by omega
    obtain ⟨f0, f1⟩ := flatV_get (List.replicate n (0, [])) (List.replicate n (.slice none 0 0)) (j / 2) (0, []) (.slice none 0 0) (by rw [List.getElem?_replicate, if_pos h2]) (by rw [List.getElem?_replicate, if_pos h2])
    show some ((#[Value.int .i64 0, .slice none 0 0] : Array Value)[j % 2]!) = _
    by_cases e : j % 2 = 0
    · have e1 : j / 2 * 2 = j := by omega
      rw [e1] at f0
      rw [f0, e]
      rfl
    · have e0 : j % 2 = 1 := by omega
      have e1 : j / 2 * 2 + 1 = j := by omega
      rw [e1] at f1
      rw [f1, e0]
      rfl
  · rw [List.getElem?_eq_none (by simp; omega), List.getElem?_eq_none (by rw [flatV_length _ _ (by simp)]; simp; omega)]
    rfl

/-- The first k violations are laid. -/
def laidV (vs : List (Int × List Rc)) (k : Nat) : List (Int × List Rc) := vs.take k ++ List.replicate (vs.length - k) (0, [])
def laidU (us : List Value) (n : Nat) : List Value := us ++ List.replicate (n - us.length) (.slice none 0 0)
theorem laidV_length (vs : List (Int × List Rc)) {k : Nat} (h : k ≤ vs.length) : (laidV vs k).length = vs.length := by simp [laidV]; omega
theorem laidV_step {vs : List (Int × List Rc)} {k : Nat} {q : Int × List Rc} (h : vs[k]? = some q) : (laidV vs k).set k q = laidV vs (k + 1) := by
  have hk : k < vs.length := (List.getElem?_eq_some_iff.1 h).1
  have hl : (vs.take k).length = k := by rw [List.length_take]; omega
  have e : vs.length - k = (vs.length - (k + 1)) + 1 := by omega
  unfold laidV
  rw [List.set_append_right _ _ (by omega), hl, Nat.sub_self, e, List.replicate_succ, List.set_cons_zero, List.take_add_one, h, List.append_assoc]
  rfl
theorem laidU_step {us : List Value} {n : Nat} (h : us.length < n) (u : Value) : (laidU us n).set us.length u = laidU (us ++ [u]) n := by
  have e : n - us.length = (n - (us ++ [u]).length) + 1 := by simp; omega
  unfold laidU
  rw [List.set_append_right _ _ (Nat.le_refl _), Nat.sub_self, e, List.replicate_succ, List.set_cons_zero, List.append_assoc]
  rfl
theorem Apart.snoc {us : List Value} {u : Value} {N : Nat} (h : Apart us) (hlt : ∀ (k : Nat) (x : Value), us[k]? = some x → ∀ g, x.ownBlock = some g → g < N) (hu : ∀ g, u.ownBlock = some g → N ≤ g) : Apart (us ++ [u]) := by
  intro i j x y g hij hx hy hxo hyo
  have hget : ∀ (k : Nat) (z : Value), (us ++ [u])[k]? = some z → us[k]? = some z ∨ (k = us.length ∧ z = u) := fun k z hz => by
    by_cases hk : k < us.length
    · rw [List.getElem?_append_left hk] at hz
      exact .inl hz
    · rw [List.getElem?_append_right (by omega)] at hz
      have e : k - us.length = 0 := by
        have := (List.getElem?_eq_some_iff.1 hz).1
        simp at this
        omega
      rw [e] at hz
      simp at hz
      exact .inr ⟨by omega, hz.symm⟩
  rcases hget i x hx with hx' | ⟨ei, ex⟩
  · rcases hget j y hy with hy' | ⟨ej, ey⟩
    · exact h i j x y g hij hx' hy' hxo hyo
    · have := hlt i x hx' g hxo
      have := hu g (ey ▸ hyo)
      omega
  · rcases hget j y hy with hy' | ⟨ej, ey⟩
    · have := hlt j y hy' g hyo
      have := hu g (ex ▸ hxo)
      omega
    · omega
theorem Apart.nil : Apart [] := fun i j x y g _ hx => by simp at hx

set_option maxHeartbeats 800000 in
set_option maxRecDepth 100000 in
/-- eqViolationS, of equal ones. -/
theorem eqVios_same (v u : Value) (us xs : List Value) (vs : List (Int × List Rc)) (w : World) (hv : XW w 0 v us vs) (hu : XW w 0 u xs vs) :
    Calls Tryz.prog 26 #[v, u] w fun e w' => e = .returned (.bool true) ∧ Below w.heap.size w w' := by
  obtain ⟨A, c1, rfl, hc1, hm1⟩ := hv.form
  obtain ⟨A2, c2, rfl, hc2, hm2⟩ := hu.form
  have hlen : vs.length ≤ 9223372036854775807 := by unfold maxLen at hm1; omega
  go_enter Tryz.func26, Tryz.ntmps26
  go_wp2
  go_loopw [5] (fun i wr => ∃ k : Nat, k ≤ vs.length ∧ i = .int .i64 k ∧ Below w.heap.size w wr) (fun i _ => vs.length - (intOf i).toNat)
  case atStart => exact ⟨0, Nat.zero_le _, rfl, Below.refl _ _⟩
  case round =>
    obtain ⟨k, hk, rfl, hb⟩ := hrel
    by_cases hlt : k < vs.length
    · obtain ⟨q, hq⟩ : ∃ q, vs[k]? = some q := ⟨_, List.getElem?_eq_getElem hlt⟩
      obtain ⟨g, y, rfl, -, -, hg, f0, f1, hR⟩ := (hv.on hb).elem hq
      obtain ⟨g', y', rfl, -, -, hg', f0', f1', hR'⟩ := (hu.on hb).elem hq
      have hk9 : k < 9223372036854775807 := by omega
      obtain ⟨Ay, cy, rfl, -, -, -⟩ := hR.form
      obtain ⟨Ay', cy', rfl, -, -, -⟩ := hR'.form
      clear hv hu hq
      go_wp2
      go_still_tail 8, (by kernel_rfl)
      change wpList _ _ _ _ _ wr.drew
      have hb2 : Below w.heap.size w wr.drew := hb.drew
      have r2 : RL wr.drew 0 _ q.2 := hR
      have r3 : RL wr.drew 0 _ q.2 := hR'
      clear hR hR' f0 f1 f0' f1' hb hg hg'
      generalize wr.drew = w2 at *
      go_wp2_with (go_at_call 72; refine (eqVio_same q.1 _ _ q.2 _ r2 r3).mono ?_; rintro e w1 ⟨rfl, hb1⟩)
      exact ⟨⟨k + 1, by omega, by go_num, hb2.trans (hb1.mono hb2.size)⟩, by simp [intOf]; omega⟩
    · go_wp2
      go_ret
      exact ⟨rfl, hb⟩

set_option maxHeartbeats 800000 in
set_option maxRecDepth 100000 in
/-- markViolationS. -/
theorem markVios_any (v : Value) (us : List Value) (vs : List (Int × List Rc)) (w : World) (B : Nat) (hv : XW w B v us vs) (hap : Apart us) (lo hi : Nat) (hin : XIn lo hi v us) (k0 : Int) (h0 : 0 ≤ k0) (h1 : k0 ≤ 1000000) (hn : vs.length + sizeV vs ≤ 1048576) :
    Calls Tryz.prog 28 #[v, .int .i64 k0] w fun e w' => e = .returned (.int .i64 (endV k0 vs)) ∧ XW w' B v us (marksV k0 vs) ∧ Mid lo hi w w' := by
  obtain ⟨A, c1, rfl, hc1, hm1⟩ := hv.form
  have hm0 := Mid.refl lo hi w
  have hv0 : XW w B (.slice A vs.length c1) us (mixedV k0 vs 0) := by rw [mixedV_zero]; exact hv
  go_enter Tryz.func28, Tryz.ntmps28
  go_wp2
  go_loopw [1, 5] (fun kv i wr => ∃ j : Nat, j ≤ vs.length ∧ i = .int .i64 j ∧ kv = .int .i64 (endV k0 (vs.take j)) ∧ XW wr B (.slice A vs.length c1) us (mixedV k0 vs j) ∧ Mid lo hi w wr) (fun _ i _ => vs.length - (intOf i).toNat)
  case atStart => exact ⟨0, Nat.zero_le _, rfl, by simp [endV], hv0, hm0⟩
  case round =>
    obtain ⟨j, hj, rfl, rfl, hX, hm⟩ := hrel
    clear hv0 hm0 hv
    by_cases hlt : j < vs.length
    · obtain ⟨q, hq⟩ : ∃ q, vs[j]? = some q := ⟨_, List.getElem?_eq_getElem hlt⟩
      have hend := endV_eq k0 (vs.take j)
      have hend2 : endV k0 (vs.take (j + 1)) = endV k0 (vs.take j) + 1 + 4 * q.2.length := by rw [List.take_add_one, hq, Option.toList, endV_snoc]
      have hst := sizeV_take hq
      have hall := sizeV_le vs (j + 1)
      rw [List.length_take, Nat.min_eq_left hj] at hend
      have Hend2 := Lib.hid hend2
      have Hstep := Lib.hid (mixedV_step k0 hq)
      have hq2 := mixedV_get k0 hq
      generalize endV k0 (vs.take j) = m at *
      obtain ⟨g, u, rfl, hu, hgB, hg, f0, f1, hR⟩ := hX.elem hq2
      have hmb : 0 ≤ m ∧ m ≤ 6000000 := by omega
      have hone : q.2.length ≤ 1048576 := by omega
      have z0 := hX.frozen (j * 2)
      have hne : u.ownBlock ≠ some g := by
        rcases own_apart hR hX.own (by decide) with e | e
        · rw [e]; simp
        · exact e
      have hR1 : RL (wr.setCell ⟨g, j * 2, none⟩ (.int .i64 m)) B u q.2 := own_other (p := ⟨g, j * 2, none⟩) hR hne _
      have hgi := hin.1 g rfl
      have hm1' : Mid lo hi wr (wr.setCell ⟨g, j * 2, none⟩ (.int .i64 m)) := Mid.of_grown (row := some g) (only_store (only_refl wr _) (j * 2) (.int .i64 m)) (fun b hb => by cases hb; exact hgi)
      have hui := hin.2 j u hu
      have Hmk := Lib.hid (fun (w2 : World) (hg2 : (wr.setCell ⟨g, j * 2, none⟩ (.int .i64 m)).grownBy w2 u.ownBlock) (hr : RL w2 B u (marks (m + 1) q.2.length)) => hX.mark hap hq2 hu m hg2 hr)
      obtain ⟨Au, cu, hu', -, -, -⟩ := hR.form
      have d1 : (wr.setCell ⟨g, j * 2, none⟩ (.int .i64 m)).cell? ⟨g, j * 2 + 1, none⟩ = some u := (World.cell?_setCell_other wr ⟨g, j * 2, none⟩ ⟨g, j * 2 + 1, none⟩ (.int .i64 m) (by simp)).trans f1
      have hj9 : j < 9223372036854775807 := by omega
      clear hq hq2 hend hend2 hst hall hX hR hap hu hne
      subst hu'
      go_wp2_with fail
      refine (markRectS_any _ q.2 _ B hR1 (m + 1) (by omega) (by omega) hone).mono ?_
      rintro e w2 ⟨rfl, hR2, hg2⟩
      have hX3 := Hmk.out w2 hg2 hR2
      rw [Hstep.out] at hX3
      have hm2 := (hm.trans hm1').trans (Mid.of_grown hg2 hui)
      go_wp2
      exact ⟨⟨j + 1, by omega, by go_num, by rw [Hend2.out], hX3, hm2⟩, by simp [intOf]; omega⟩
    · have hje : j = vs.length := by omega
      subst hje
      rw [mixedV_end] at hX
      rw [List.take_length]
      go_wp2
      go_ret
      exact ⟨rfl, hX, hm⟩

set_option maxHeartbeats 800000 in
set_option maxRecDepth 100000 in
/-- heldViolationS. -/
theorem heldVios_any (v : Value) (us : List Value) (vs : List (Int × List Rc)) (w : World) (k0 : Int) (hv : XW w 0 v us (marksV k0 vs)) (h0 : 0 ≤ k0) (h1 : k0 ≤ 1000000) (hn : vs.length + sizeV vs ≤ 1048576) :
    Calls Tryz.prog 29 #[v, .int .i64 k0] w fun e w' => e = .returned (.int .i64 (endV k0 vs)) ∧ w = w' := by
  obtain ⟨A, c1, hv', hc1, hm1⟩ := hv.form
  rw [marksV_length] at hv' hc1
  subst hv'
  have Hv := Lib.hid hv
  clear hv
  go_enter Tryz.func29, Tryz.ntmps29
  go_wp2
  go_loop [1, 5] (fun kv i => ∃ j : Nat, j ≤ vs.length ∧ i = .int .i64 j ∧ kv = .int .i64 (endV k0 (vs.take j))) (fun _ i => vs.length - (intOf i).toNat)
  case atStart => exact ⟨0, Nat.zero_le _, rfl, by simp [endV]⟩
  case round =>
    obtain ⟨j, hj, rfl, rfl⟩ := hrel
    by_cases hlt : j < vs.length
    · obtain ⟨q, hq⟩ : ∃ q, vs[j]? = some q := ⟨_, List.getElem?_eq_getElem hlt⟩
      have hend := endV_eq k0 (vs.take j)
      have hend2 : endV k0 (vs.take (j + 1)) = endV k0 (vs.take j) + 1 + 4 * q.2.length := by rw [List.take_add_one, hq, Option.toList, endV_snoc]
      have hst := sizeV_take hq
      have hall := sizeV_le vs (j + 1)
      rw [List.length_take, Nat.min_eq_left hj] at hend
      have Hend2 := Lib.hid hend2
      obtain ⟨g, u, rfl, hu, hgB, hg, f0, f1, hR⟩ := Hv.out.elem (marksV_get k0 vs j q hq)
      dsimp only at f0 f1 hR
      generalize endV k0 (vs.take j) = m at *
      have hmb : 0 ≤ m ∧ m ≤ 6000000 := by omega
      have hone : q.2.length ≤ 1048576 := by omega
      have hj9 : j < 9223372036854775807 := by omega
      have hnn : ¬ (m + 1 + 4 * (q.2.length : Int) < 0) := by omega
      obtain ⟨Au, cu, hu', -, -, -⟩ := hR.form
      rw [marks_length] at hu'
      clear hq hend hend2 hst hall hu
      subst hu'
      go_wp2_with fail
      refine (heldRectS_any _ q.2.length _ (m + 1) hR (by omega) (by omega) hone).mono ?_
      rintro e w2 ⟨rfl, rfl⟩
      go_wp2
      go_round
      case rel => exact ⟨j + 1, by omega, by go_num, by rw [Hend2.out]⟩
      case measure => simp [intOf]; omega
    · have hje : j = vs.length := by omega
      subst hje
      rw [List.take_length]
      go_wp2
      go_ret
      exact ⟨rfl, rfl⟩

end Go.Proofs.YtbljapihmkmolaaGreat
