/- What memory holds: lists of lists of rectangles, their values by name. Contracts: szRectSS, toRectSS, eqRectSS, markRectSS. Conditions: lists in memory; bounds on their sizes. -/
import Derived.Test.YtemeegpmdhgocaaGreatVioA
import Derived.Test.YtemeegpmdhgocaaGreatCombA
import Derived.StillTailTactics
namespace Go.Proofs.YtemeegpmdhgocaaGreat
open Go.RowKit

/-- The slice value v is the list rss of lists, whose values are us; all in blocks from B on. -/
structure LW (w : World) (B : Nat) (v : Value) (us : List Value) (rss : List (List Rc)) : Prop where
  len : us.length = rss.length
  own : w.ownsRow B 41 1 v rss.length us
  each : ∀ (k : Nat) (u : Value) (rs : List Rc), us[k]? = some u → rss[k]? = some rs → RL w B u rs
section
variable {w w' : World} {B B' lo hi : Nat} {v : Value} {us : List Value} {rss : List (List Rc)}
theorem LW.on (h : LW w B v us rss) (hb : Below w.heap.size w w') : LW w' B v us rss := ⟨h.len, own_on h.own hb, fun k u q hu hq => (h.each k u q hu hq).on hb⟩
theorem LW.less (h : LW w B v us rss) (hB : B' ≤ B) : LW w B' v us rss := ⟨h.len, own_less h.own hB, fun k u q hu hq => (h.each k u q hu hq).less hB⟩
theorem LW.alloc (h : LW w B v us rss) (o : Obj) : LW (w.alloc o) B v us rss := h.on ((Below.refl _ _).alloc (Nat.le_refl _) o)
theorem LW.drew (h : LW w B v us rss) : LW w.drew B v us rss := h.on (Below.refl _ _).drew
theorem LW.rll (h : LW w B v us rss) : RLL w B v rss := ⟨us, by unfold VL; rw [h.len]; exact h.own, h.len, h.each⟩
theorem LW.form (h : LW w B v us rss) : ∃ A cap, v = .slice A rss.length cap ∧ rss.length ≤ cap ∧ cap ≤ maxLen := by
  obtain ⟨A, cap, hv, a1, a2, _⟩ := own_form h.own
  exact ⟨A, cap, hv, a1, a2⟩
theorem LW.elem {A : Option Addr} {n c k : Nat} {rs : List Rc} (h : LW w B (.slice A n c) us rss) (hq : rss[k]? = some rs) : ∃ g u, A = some ⟨g, 0, none⟩ ∧ us[k]? = some u ∧ B ≤ g ∧ g < w.heap.size ∧ w.cell? ⟨g, k, none⟩ = some u ∧ RL w B u rs := by
  obtain ⟨A', cap, hv, a1, a2, hf⟩ := own_form h.own
  have hk : k < rss.length := (List.getElem?_eq_some_iff.1 hq).1
  obtain ⟨g, hA, hg, hgw, hc, _⟩ := hf (by omega)
  obtain ⟨u, hu⟩ : ∃ u, us[k]? = some u := ⟨_, List.getElem?_eq_getElem (by rw [h.len]; exact hk)⟩
  simp only [Value.slice.injEq] at hv
  exact ⟨g, u, hv.1.trans hA, hu, hg, hgw, hc _ _ hu, h.each k u rs hu hq⟩
theorem LW.frozen {g n c : Nat} (h : LW w B (.slice (some ⟨g, 0, none⟩) n c) us rss) (j : Nat) : w.frozen? ⟨g, j, none⟩ = false := by
  obtain ⟨A, c', e, _, _⟩ := h.form
  simp only [Value.slice.injEq] at e
  obtain ⟨_, rfl, _⟩ := e
  exact World.ownsRow.frozenAt h.own j
theorem LW.inside (h : LW w B v us rss) : XIn B w.heap.size v us := by
  refine ⟨own_lt h.own, fun k u hu g hg => ?_⟩
  have hk : k < rss.length := by rw [← h.len]; exact (List.getElem?_eq_some_iff.1 hu).1
  exact own_lt (h.each k u _ hu (List.getElem?_eq_getElem hk)) g hg
theorem LW.mid (h : LW w B v us rss) (hm : Mid lo hi w w') {a b : Nat} (hi' : XIn a b v us) (hab : b ≤ lo ∨ hi ≤ a) : LW w' B v us rss :=
  ⟨h.len, hm.own h.own (fun g hg => by have := hi'.1 g hg; omega), fun k u q hu hq => hm.own (h.each k u q hu hq) (fun g hg => by have := hi'.2 k u hu g hg; omega)⟩
theorem LW.set1 {g n c : Nat} (h : LW w B (.slice (some ⟨g, 0, none⟩) n c) us rss) {k : Nat} (hk : k < rss.length) (rs : List Rc) (u : Value) (hu : RL w B u rs) :
    LW (w.setCell ⟨g, k, none⟩ u) B (.slice (some ⟨g, 0, none⟩) n c) (us.set k u) (rss.set k rs) := by
  obtain ⟨A, c', e, _, _⟩ := h.form
  simp only [Value.slice.injEq] at e
  obtain ⟨_, rfl, _⟩ := e
  have key : ∀ (z : Value) (qs : List Rc), RL w B z qs → RL (w.setCell ⟨g, k, none⟩ u) B z qs := fun z qs hz => by
    have hne : z.ownBlock ≠ some g := by
      rcases own_apart hz h.own (by decide) with e | e
      · rw [e]; simp
      · exact e
    exact own_other (p := ⟨g, k, none⟩) hz hne _
  refine ⟨by simp [h.len], ?_, fun j z r hz hr => ?_⟩
  · rw [List.length_set]
    exact (World.ownsRow.stored h.own _ _).1
  · by_cases e : j = k
    · subst e
      rw [List.getElem?_set_self (by rw [h.len]; exact hk)] at hz
      rw [List.getElem?_set_self hk] at hr
      cases hz
      cases hr
      exact key _ _ hu
    · rw [List.getElem?_set_ne (fun e' => e e'.symm)] at hz hr
      exact key _ _ (h.each j z r hz hr)
theorem LW.mark {A : Option Addr} {n c : Nat} (h : LW w B (.slice A n c) us rss) (hap : Apart us) {j : Nat} {u : Value} (hu : us[j]? = some u) {w2 : World}
    (hg : w.grownBy w2 u.ownBlock) {ms : List Rc} (hr : RL w2 B u ms) : LW w2 B (.slice A n c) us (rss.set j ms) := by
  have hj : j < rss.length := by rw [← h.len]; exact (List.getElem?_eq_some_iff.1 hu).1
  refine ⟨by simp [h.len], ?_, fun i z r hz hr' => ?_⟩
  · rw [List.length_set]
    have hue := h.each j u _ hu (List.getElem?_eq_getElem hj)
    refine World.ownsRow.kept h.own hg ?_
    rcases own_apart hue h.own (by decide) with e | e
    · cases hb : (Value.slice A n c).ownBlock with
      | none => exact .inl rfl
      | some b => right; rw [e]; simp
    · exact .inr fun e' => e e'.symm
  · by_cases e : i = j
    · subst e
      rw [hu] at hz
      rw [List.getElem?_set_self hj] at hr'
      cases hz
      cases hr'
      exact hr
    · rw [List.getElem?_set_ne (fun e' => e e'.symm)] at hr'
      have hz' := h.each i z r hz hr'
      refine World.ownsRow.kept hz' hg ?_
      cases hzo : z.ownBlock with
      | none => exact .inl rfl
      | some b => exact .inr fun e' => hap i j z u b e hz hu hzo e'.symm
end

/-- The number of rectangles of the lists together. -/
def sizeL (rss : List (List Rc)) : Nat := (rss.map List.length).sum
theorem sizeL_take {rss : List (List Rc)} {j : Nat} {rs : List Rc} (h : rss[j]? = some rs) : sizeL (rss.take (j + 1)) = sizeL (rss.take j) + rs.length := by
  unfold sizeL
  rw [List.take_add_one, h]
  simp
theorem sizeL_le (rss : List (List Rc)) (j : Nat) : sizeL (rss.take j) ≤ sizeL rss := by
  have e : sizeL rss = sizeL (rss.take j) + sizeL (rss.drop j) := by
    unfold sizeL
    conv => lhs; rw [← List.take_append_drop j rss]
    rw [List.map_append, List.sum_append]
  omega
theorem info_rects : (Tryz.prog.info? 41).map (fun i => (i.zero, i.size, i.bytes)) = some (some (.slice none 0 0), 1, 24) := by kernel_rfl
theorem slices_zeros (n : Nat) : (madeCells #[.slice none 0 0] n).toList = List.replicate n (.slice none 0 0) := by
  apply List.ext_getElem?
  intro j
  simp only [madeCells, Array.toList_map, Array.toList_range, List.getElem?_map, List.getElem?_replicate]
  by_cases hj : j < n
  · rw [List.getElem?_range (by omega), if_pos hj]
    have e : j % 1 = 0 := by omega
    show some ((#[Value.slice none 0 0] : Array Value)[j % 1]!) = _
    rw [e]
    rfl
  · rw [if_neg hj, List.getElem?_eq_none (by simp; omega)]
    rfl
/-- The first k lists are laid. -/
def laidL (rss : List (List Rc)) (k : Nat) : List (List Rc) := rss.take k ++ List.replicate (rss.length - k) []
theorem laidL_length (rss : List (List Rc)) {k : Nat} (h : k ≤ rss.length) : (laidL rss k).length = rss.length := by simp [laidL]; omega
theorem laidL_step {rss : List (List Rc)} {k : Nat} {rs : List Rc} (h : rss[k]? = some rs) : (laidL rss k).set k rs = laidL rss (k + 1) := by
  have hk : k < rss.length := (List.getElem?_eq_some_iff.1 h).1
  have hl : (rss.take k).length = k := by rw [List.length_take]; omega
  have e : rss.length - k = (rss.length - (k + 1)) + 1 := by omega
  unfold laidL
  rw [List.set_append_right _ _ (by omega), hl, Nat.sub_self, e, List.replicate_succ, List.set_cons_zero, List.take_add_one, h, List.append_assoc]
  rfl

set_option maxHeartbeats 800000 in
set_option maxRecDepth 100000 in
/-- szRectSS: there is room. -/
theorem szRss_yes (A : Option Addr) (n c : Nat) (rss : List (List Rc)) (left : Int) (w : World) (hA : ArgL w A n rss) (h0 : ((n + sizeL rss : Nat) : Int) ≤ left) (h1 : left ≤ 1048576) :
    Calls Tryz.prog 4 #[.slice A n c, .int .i64 left] w fun e w' => e = .returned (.int .i64 (left - n - (sizeL rss : Nat))) ∧ Below w.heap.size w w' := by
  obtain rfl := hA.len
  have hn : ¬ (left - (rss.length : Int) < 0) := by omega
  go_enter Tryz.func4, Tryz.ntmps4
  go_wp2
  clear hn
  go_loop [1, 5] (fun lv iv => ∃ k : Nat, k ≤ rss.length ∧ iv = .int .i64 k ∧ lv = .int .i64 (left - rss.length - (sizeL (rss.take k) : Nat))) (fun _ iv => rss.length - (intOf iv).toNat)
  case atStart => exact ⟨0, Nat.zero_le _, rfl, by simp [sizeL]⟩
  case round =>
    obtain ⟨k, hk, rfl, rfl⟩ := hrel
    by_cases hlt : k < rss.length
    · obtain ⟨q, hq⟩ : ∃ q, rss[k]? = some q := ⟨_, List.getElem?_eq_getElem hlt⟩
      obtain ⟨b, off, A', n', c', rfl, hbl, f1, hle, hmx, hR⟩ := hA.elem k q hq
      obtain rfl := hR.len
      have hst := sizeL_take hq
      have hall := sizeL_le rss (k + 1)
      have Hst := Lib.hid (show left - (rss.length : Int) - (sizeL (rss.take k) : Nat) - (q.length : Nat) = left - rss.length - (sizeL (rss.take (k + 1)) : Nat) by omega)
      have hroom : ((q.length : Nat) : Int) ≤ left - (rss.length : Int) - (sizeL (rss.take k) : Nat) := by omega
      have hlo : left - (rss.length : Int) - (sizeL (rss.take k) : Nat) ≤ 1048576 := by omega
      have hk9 : k < 9223372036854775807 := by omega
      generalize left - (rss.length : Int) - (sizeL (rss.take k) : Nat) = m at *
      have hnn : ¬ (m - (q.length : Int) < 0) := by omega
      clear hst hall hq hA
      go_wp2_with fail
      refine (szRectS_yes A' q.length c' m _ hroom hlo).mono ?_
      rintro e w2 ⟨rfl, rfl⟩
      go_wp2
      go_round
      case rel => exact ⟨k + 1, by omega, by go_num, by rw [Hst.out]⟩
      case measure => simp [intOf]; omega
    · have hke : k = rss.length := by omega
      subst hke
      rw [List.take_length]
      go_wp2
      go_ret
      exact ⟨rfl, Below.refl _ _⟩

set_option maxHeartbeats 800000 in
set_option maxRecDepth 100000 in
/-- .. there is none. -/
theorem szRss_no (A : Option Addr) (n c : Nat) (rss : List (List Rc)) (left : Int) (w : World) (hA : ArgL w A n rss) (h0 : left < ((n + sizeL rss : Nat) : Int)) (h1 : 0 ≤ left) (h2 : left ≤ 1048576) (hn : n ≤ maxLen) :
    Calls Tryz.prog 4 #[.slice A n c, .int .i64 left] w fun e w' => e = .returned (.int .i64 (-1)) ∧ Below w.heap.size w w' := by
  obtain rfl := hA.len
  unfold maxLen at hn
  by_cases hroom : left < (rss.length : Int)
  · have hn1 : left - (rss.length : Int) < 0 := by omega
    go_enter Tryz.func4, Tryz.ntmps4
    go_wp2
    go_ret
    exact ⟨rfl, Below.refl _ _⟩
  · have hn1 : ¬ (left - (rss.length : Int) < 0) := by omega
    go_enter Tryz.func4, Tryz.ntmps4
    go_wp2
    clear hn1
    go_loop [1, 5] (fun lv iv => ∃ k : Nat, k ≤ rss.length ∧ iv = .int .i64 k ∧ lv = .int .i64 (left - rss.length - (sizeL (rss.take k) : Nat)) ∧ 0 ≤ left - (rss.length : Int) - (sizeL (rss.take k) : Nat)) (fun _ iv => rss.length - (intOf iv).toNat)
    case atStart => exact ⟨0, Nat.zero_le _, rfl, by simp [sizeL], by simp [sizeL]; omega⟩
    case round =>
      obtain ⟨k, hk, rfl, rfl, hpos⟩ := hrel
      by_cases hlt : k < rss.length
      · obtain ⟨q, hq⟩ : ∃ q, rss[k]? = some q := ⟨_, List.getElem?_eq_getElem hlt⟩
        obtain ⟨b, off, A', n', c', rfl, hbl, f1, hle, hmx, hR⟩ := hA.elem k q hq
        obtain rfl := hR.len
        have hst := sizeL_take hq
        have Hst := Lib.hid (show left - (rss.length : Int) - (sizeL (rss.take k) : Nat) - (q.length : Nat) = left - rss.length - (sizeL (rss.take (k + 1)) : Nat) by omega)
        have hlo : left - (rss.length : Int) - (sizeL (rss.take k) : Nat) ≤ 1048576 := by omega
        have hk9 : k < 9223372036854775807 := by omega
        generalize left - (rss.length : Int) - (sizeL (rss.take k) : Nat) = m at *
        clear hst hq hA h0 h1 h2 hroom
        by_cases hfit : ((q.length : Nat) : Int) ≤ m
        · have hnn : ¬ (m - (q.length : Int) < 0) := by omega
          go_wp2_with fail
          refine (szRectS_yes A' q.length c' m _ hfit hlo).mono ?_
          rintro e w2 ⟨rfl, rfl⟩
          go_wp2
          go_round
          case rel => exact ⟨k + 1, by omega, by go_num, by rw [Hst.out], by rw [← Hst.out]; omega⟩
          case measure => simp [intOf]; omega
        · go_wp2_with fail
          refine (szRectS_no A' q.length c' m _ (by omega) hpos (Nat.le_trans hle hmx)).mono ?_
          rintro e w2 ⟨rfl, rfl⟩
          go_wp2
          go_ret
          exact ⟨rfl, Below.refl _ _⟩
      · exfalso
        have hke : k = rss.length := by omega
        subst hke
        rw [List.take_length] at hpos
        omega

set_option maxHeartbeats 1600000 in
set_option maxRecDepth 100000 in
/-- toRectSS. -/
theorem toRss_any (A : Option Addr) (n c : Nat) (rss : List (List Rc)) (w : World) (hA : ArgL w A n rss) (hs : n + sizeL rss ≤ 1048576) :
    Calls Tryz.prog 8 #[.slice A n c] w fun e w' => ∃ u us, e = .returned u ∧ LW w' w.heap.size u us rss ∧ Apart us ∧ Below w.heap.size w w' := by
  obtain rfl := hA.len
  obtain ⟨i0, hi0, hz0, hsz0, hby0⟩ := info_parts info_rects
  go_enter Tryz.func8, Tryz.ntmps8
  go_wp2_with (at_make; refine wpList_make_full _ rfl _ _ 35 rfl w.heap.size 41 i0 _ 1 Tryz.underlying35 hi0 hz0 hsz0 _ _ _ _ rss.length rfl rfl rfl rfl (by rw [hby0]; omega) (by simp only [maxLen]; omega) (Nat.le_refl _) ?_)
  intro w1 ho1 hg1
  have hb1 : Below w.heap.size w w1 := (Below.refl _ _).grown hg1 (Nat.le_refl _) (fun k hk => by cases hk)
  have hX1 : LW w1 w.heap.size (.slice (some ⟨w.heap.size, 0, none⟩) rss.length rss.length) (laidU [] rss.length) (laidL rss 0) := by
    have e : laidL rss 0 = List.replicate rss.length [] := by simp [laidL]
    have e2 : laidU [] rss.length = List.replicate rss.length (.slice none 0 0) := by simp [laidU]
    rw [e, e2]
    refine ⟨by simp, ?_, fun k u q hu hq => ?_⟩
    · rw [List.length_replicate, ← slices_zeros]
      exact ho1
    · rw [List.getElem?_replicate] at hu hq
      split at hu
      · rename_i hk
        rw [if_pos hk] at hq
        cases hu
        cases hq
        exact RL.nil _ _
      · cases hu
  have hz1 : w.heap.size < w1.heap.size := (own_lt hX1.own _ rfl).2
  clear ho1 hg1 hi0 hz0 hsz0 hby0
  go_wp2
  go_loopw [4] (fun iv wr => ∃ (k : Nat) (us : List Value), k ≤ rss.length ∧ us.length = k ∧ iv = .int .i64 k ∧ LW wr w.heap.size (.slice (some ⟨w.heap.size, 0, none⟩) rss.length rss.length) (laidU us rss.length) (laidL rss k) ∧ Apart us ∧ Below w.heap.size w wr ∧ w.heap.size < wr.heap.size) (fun iv _ => rss.length - (intOf iv).toNat)
  case atStart => exact ⟨0, [], Nat.zero_le _, rfl, rfl, hX1, Apart.nil, hb1, hz1⟩
  case round =>
    obtain ⟨k, us, hk, rfl, rfl, hX, hap, hb, hsz⟩ := hrel
    clear hX1 hb1 hz1
    by_cases hlt : us.length < rss.length
    · obtain ⟨q, hq⟩ : ∃ q, rss[us.length]? = some q := ⟨_, List.getElem?_eq_getElem hlt⟩
      obtain ⟨b, off, A', n', c', rfl, hbl, f1, hle, hmx, hR⟩ := (hA.on hb).elem us.length q hq
      obtain rfl := hR.len
      have hone : q.length ≤ 1048576 := by
        have := sizeL_take hq
        have := sizeL_le rss (us.length + 1)
        omega
      have Hst := Lib.hid (laidL_step hq)
      have Hsu := Lib.hid (laidU_step (us := us) hlt)
      have hkl : us.length < (laidL rss us.length).length := by rw [laidL_length rss (Nat.le_of_lt hlt)]; exact hlt
      have Hkl := Lib.hid hkl
      have hk9 : us.length < 9223372036854775807 := by omega
      have Hin := Lib.hid (show ∀ (k : Nat) (x : Value), us[k]? = some x → ∀ g, x.ownBlock = some g → g < wr.heap.size from fun k x hx g hg => (hX.inside.2 k x (by unfold laidU; rw [List.getElem?_append_left (List.getElem?_eq_some_iff.1 hx).1]; exact hx) g hg).2)
      clear hq hkl
      go_wp2_with fail
      refine (toRectS_any A' q.length c' q _ hR hone).mono ?_
      rintro e w2 ⟨u, rfl, hU, hb2⟩
      have hap2 := hap.snoc Hin.out (fun g hg => (hU.lt g hg).1)
      have hX2 := hX.on hb2
      have z0 := hX2.frozen us.length
      have hU2 := hU.less hb.size
      have HX3 := Lib.hid (hX2.set1 Hkl.out q u hU2)
      rw [Hst.out, Hsu.out] at HX3
      have hb3 := (hb.trans (hb2.mono hb.size)).setCell (p := ⟨w.heap.size, us.length, none⟩) (Nat.le_refl _) u
      have hsz2 := hb2.size
      obtain ⟨Au, cu, hu', -, -, -⟩ := hU2.form
      obtain ⟨g0, h0⟩ := (LW.elem (k := us.length) hX2 (List.getElem?_eq_getElem Hkl.out))
      obtain ⟨y, hA0, hy, -, -, d0, -⟩ := h0
      cases hA0
      clear hX hX2 hb hb2 hA f1 hR hU hU2 hy Hin Hst Hsu
      subst hu'
      go_wp2
      exact ⟨⟨us.length + 1, us ++ [_], by omega, by simp, by go_num, HX3.out, hap2, hb3, by simp; omega⟩, by simp [intOf]; omega⟩
    · have hke : us.length = rss.length := by omega
      have e1 : laidL rss us.length = rss := by rw [hke]; simp [laidL]
      have e2 : laidU us rss.length = us := by rw [← hke]; simp [laidU]
      rw [e1, e2] at hX
      clear e1 e2
      go_wp2
      go_ret
      exact ⟨_, us, rfl, hX, hap, hb⟩

set_option maxHeartbeats 800000 in
set_option maxRecDepth 100000 in
/-- eqRectSS, of equal ones. -/
theorem eqRss_same (v u : Value) (us xs : List Value) (rss : List (List Rc)) (w : World) (hv : LW w 0 v us rss) (hu : LW w 0 u xs rss) :
    Calls Tryz.prog 13 #[v, u] w fun e w' => e = .returned (.bool true) ∧ Below w.heap.size w w' := by
  obtain ⟨A, c1, rfl, hc1, hm1⟩ := hv.form
  obtain ⟨A2, c2, rfl, hc2, hm2⟩ := hu.form
  have hlen : rss.length ≤ 9223372036854775807 := by unfold maxLen at hm1; omega
  go_enter Tryz.func13, Tryz.ntmps13
  go_wp2
  go_loopw [5] (fun i wr => ∃ k : Nat, k ≤ rss.length ∧ i = .int .i64 k ∧ Below w.heap.size w wr) (fun i _ => rss.length - (intOf i).toNat)
  case atStart => exact ⟨0, Nat.zero_le _, rfl, Below.refl _ _⟩
  case round =>
    obtain ⟨k, hk, rfl, hb⟩ := hrel
    by_cases hlt : k < rss.length
    · obtain ⟨q, hq⟩ : ∃ q, rss[k]? = some q := ⟨_, List.getElem?_eq_getElem hlt⟩
      obtain ⟨g, y, rfl, -, -, hg, f0, hR⟩ := (hv.on hb).elem hq
      obtain ⟨g', y', rfl, -, -, hg', f0', hR'⟩ := (hu.on hb).elem hq
      have hk9 : k < 9223372036854775807 := by omega
      obtain ⟨Ay, cy, rfl, -, -, -⟩ := hR.form
      obtain ⟨Ay', cy', rfl, -, -, -⟩ := hR'.form
      clear hv hu hq
      go_wp2
      go_still_tail 8, (by kernel_rfl)
      change wpList _ _ _ _ _ wr.drew
      have hb2 : Below w.heap.size w wr.drew := hb.drew
      have r2 : RL wr.drew 0 _ q := hR
      have r3 : RL wr.drew 0 _ q := hR'
      clear hR hR' f0 f0' hb hg hg'
      generalize wr.drew = w2 at *
      go_wp2_with (go_at_call 41; refine (eqRectS_same _ _ q _ r2 r3).mono ?_; rintro e w1 ⟨rfl, hb1⟩)
      exact ⟨⟨k + 1, by omega, by go_num, hb2.trans (hb1.mono hb2.size)⟩, by simp [intOf]; omega⟩
    · go_wp2
      go_ret
      exact ⟨rfl, hb⟩

set_option maxHeartbeats 800000 in
set_option maxRecDepth 100000 in
/-- markRectSS. -/
theorem markRss_any (v : Value) (us : List Value) (rss : List (List Rc)) (w : World) (B : Nat) (hv : LW w B v us rss) (hap : Apart us) (lo hi : Nat) (hin : XIn lo hi v us) (k0 : Int) (h0 : 0 ≤ k0) (h1 : k0 ≤ 1000000) (hn : rss.length + sizeL rss ≤ 1048576) :
    Calls Tryz.prog 16 #[v, .int .i64 k0] w fun e w' => e = .returned (.int .i64 (k0 + 4 * (sizeL rss : Nat))) ∧ Mid lo hi w w' := by
  obtain ⟨A, c1, rfl, hc1, hm1⟩ := hv.form
  have hm0 := Mid.refl lo hi w
  go_enter Tryz.func16, Tryz.ntmps16
  go_wp2
  go_loopw [1, 5] (fun kv i wr => ∃ (j : Nat) (ms : List (List Rc)), j ≤ rss.length ∧ i = .int .i64 j ∧ kv = .int .i64 (k0 + 4 * (sizeL (rss.take j) : Nat)) ∧ ms.length = rss.length ∧ Hid (∀ (i : Nat), j ≤ i → ms[i]? = rss[i]?) ∧ LW wr B (.slice A rss.length c1) us ms ∧ Mid lo hi w wr) (fun _ i _ => rss.length - (intOf i).toNat)
  case atStart => exact ⟨0, rss, Nat.zero_le _, rfl, by simp [sizeL], rfl, Lib.hid (fun _ _ => rfl), hv, hm0⟩
  case round =>
    obtain ⟨j, ms, hj, rfl, rfl, hml, HM, hX, hm⟩ := hrel
    clear hm0 hv
    by_cases hlt : j < rss.length
    · obtain ⟨q, hq⟩ : ∃ q, rss[j]? = some q := ⟨_, List.getElem?_eq_getElem hlt⟩
      have hst := sizeL_take hq
      have hall := sizeL_le rss (j + 1)
      have Hend2 := Lib.hid (show k0 + 4 * (sizeL (rss.take (j + 1)) : Nat) = k0 + 4 * (sizeL (rss.take j) : Nat) + 4 * (q.length : Int) by omega)
      have hq2 : ms[j]? = some q := (HM.out j (Nat.le_refl _)).trans hq
      have hmb : 0 ≤ k0 + 4 * (sizeL (rss.take j) : Nat) ∧ k0 + 4 * (sizeL (rss.take j) : Nat) ≤ 10000000 := by omega
      have hone : q.length ≤ 1048576 := by omega
      generalize k0 + 4 * ((sizeL (rss.take j) : Nat) : Int) = m at *
      obtain ⟨g, u, rfl, hu, hgB, hg, f0, hR⟩ := hX.elem hq2
      have hui := hin.2 j u hu
      have Hmk := Lib.hid (fun (w2 : World) (hg2 : wr.grownBy w2 u.ownBlock) (hr : RL w2 B u (marks m q.length)) => hX.mark hap hu hg2 hr)
      have HM2 := Lib.hid (show ∀ (i : Nat), j + 1 ≤ i → (ms.set j (marks m q.length))[i]? = rss[i]? from fun i hi => by rw [List.getElem?_set_ne (by omega)]; exact HM.out i (by omega))
      have hml2 : (ms.set j (marks m q.length)).length = rss.length := by rw [List.length_set]; exact hml
      have Hml2 := Lib.hid hml2
      obtain ⟨Au, cu, hu', -, -, -⟩ := hR.form
      have hj9 : j < 9223372036854775807 := by omega
      clear hq hq2 hst hall hX hap hu hml hml2
      subst hu'
      go_wp2_with fail
      refine (markRectS_any _ q _ B hR m hmb.1 hmb.2 hone).mono ?_
      rintro e w2 ⟨rfl, hR2, hg2⟩
      have hX3 := Hmk.out w2 hg2 hR2
      have hm2 := hm.trans (Mid.of_grown hg2 hui)
      go_wp2
      exact ⟨⟨j + 1, _, by omega, by go_num, by rw [Hend2.out], Hml2.out, HM2, hX3, hm2⟩, by simp [intOf]; omega⟩
    · have hje : j = rss.length := by omega
      subst hje
      rw [List.take_length]
      go_wp2
      go_ret
      exact ⟨rfl, hm⟩

end Go.Proofs.YtemeegpmdhgocaaGreat
