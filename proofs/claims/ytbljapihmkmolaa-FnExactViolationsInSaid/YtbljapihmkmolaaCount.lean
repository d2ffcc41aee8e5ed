/- Contracts: CountByRule of the reference and of the program. Condition: a list of violations in memory. -/
import Derived.Test.YtbljapihmkmolaaRepI
import Derived.Test.YtbljapihmkmolaaInts
import Derived.Test.YtbljapihmkmolaaLawKit
namespace Go.Proofs.Ytbljapihmkmolaa
open Go.RowKit

def cntAt (vs : List (Int × List Rc)) (r : Nat) : Int := (vs.countP fun q => decide (q.1 = (r : Int)) : Nat)
def cntL (vs : List (Int × List Rc)) (n : Nat) : List Int := (List.range n).map (cntAt vs)
noncomputable def cntV (vs : List (Int × List Rc)) (m : Int) : List Int := if repB okV vs = true ∧ inB 0 m 12 = true then cntL vs m.toNat else []
theorem cntL_length (vs : List (Int × List Rc)) (n : Nat) : (cntL vs n).length = n := by simp [cntL]
theorem cntL_get (vs : List (Int × List Rc)) {n r : Nat} (h : r < n) : (cntL vs n)[r]? = some (cntAt vs r) := by simp [cntL, h]
theorem cntV_yes {vs : List (Int × List Rc)} {n : Nat} (h : repB okV vs = true) (h2 : inB 0 (n : Int) 12 = true) : cntV vs n = cntL vs n := by unfold cntV; rw [if_pos ⟨h, h2⟩, Int.toNat_natCast]
theorem cntV_no1 {vs : List (Int × List Rc)} {m : Int} (h : repB okV vs = false) : cntV vs m = [] := if_neg (by rw [h]; simp)
theorem cntV_no2 {vs : List (Int × List Rc)} {m : Int} (h : inB 0 m 12 = false) : cntV vs m = [] := if_neg (by rw [h]; simp)
theorem cntV_length (vs : List (Int × List Rc)) (m : Int) : (cntV vs m).length ≤ 1000000 := by
  unfold cntV
  split
  · rename_i h
    rw [cntL_length]
    have := (inB_iff 0 m 12).1 h.2
    omega
  · simp
theorem cntAt_bounds (vs : List (Int × List Rc)) (r : Nat) : 0 ≤ cntAt vs r ∧ cntAt vs r ≤ vs.length := by
  have := List.countP_le_length (p := fun q : Int × List Rc => decide (q.1 = (r : Int))) (l := vs)
  unfold cntAt
  omega
theorem cntAt_step {vs : List (Int × List Rc)} {k : Nat} {q : Int × List Rc} (h : vs[k]? = some q) (r : Nat) : cntAt (vs.take (k + 1)) r = cntAt (vs.take k) r + if q.1 = (r : Int) then 1 else 0 := by
  unfold cntAt
  rw [List.take_add_one, h, Option.toList, List.countP_append, List.countP_cons, List.countP_nil]
  split <;> simp_all
theorem cnt_yes {vs : List (Int × List Rc)} {k n r : Nat} {q : Int × List Rc} (h : vs[k]? = some q) (hr : q.1 = (r : Int)) (hn : r < n) : (cntL (vs.take k) n).set r (cntAt (vs.take k) r + 1) = cntL (vs.take (k + 1)) n := by
  apply List.ext_getElem?
  intro i
  by_cases hi : i < n
  · rw [cntL_get _ hi, cntAt_step h]
    by_cases e : i = r
    · subst e
      rw [List.getElem?_set_self (by rw [cntL_length]; exact hi), if_pos hr]
    · rw [List.getElem?_set_ne (fun e' => e e'.symm), cntL_get _ hi, if_neg (by omega), Int.add_zero]
  · rw [List.getElem?_eq_none (by rw [List.length_set, cntL_length]; omega), List.getElem?_eq_none (by rw [cntL_length]; omega)]
theorem cnt_no {vs : List (Int × List Rc)} {k n : Nat} {q : Int × List Rc} (h : vs[k]? = some q) (hr : ¬ q.1 < (n : Int)) : cntL (vs.take k) n = cntL (vs.take (k + 1)) n := by
  apply List.ext_getElem?
  intro i
  by_cases hi : i < n
  · rw [cntL_get _ hi, cntL_get _ hi, cntAt_step h, if_neg (by omega), Int.add_zero]
  · rw [List.getElem?_eq_none (by rw [cntL_length]; omega), List.getElem?_eq_none (by rw [cntL_length]; omega)]
theorem cntL_start (vs : List (Int × List Rc)) (n : Nat) : cntL (vs.take 0) n = List.replicate n 0 := by
  apply List.ext_getElem?
  intro i
  by_cases hi : i < n
  · rw [cntL_get _ hi, List.getElem?_replicate, if_pos hi]
    rfl
  · rw [List.getElem?_eq_none (by rw [cntL_length]; omega), List.getElem?_eq_none (by simp; omega)]
theorem valsI_zeros (n : Nat) : (madeCells #[.int .i64 0] n).toList = valsI (List.replicate n 0) := by
  apply List.ext_getElem?
  intro j
  rw [valsI_get]
  simp only [madeCells, Array.toList_map, Array.toList_range, List.getElem?_map, List.getElem?_replicate]
  by_cases hj : j < n
  · rw [List.getElem?_range (by omega), if_pos hj]
    have e : j % 1 = 0 := by omega
    show some ((#[Value.int .i64 0] : Array Value)[j % 1]!) = _
    rw [e]
    rfl
  · rw [if_neg hj, List.getElem?_eq_none (by simp; omega)]
    rfl
theorem rep_rule {vs : List (Int × List Rc)} (h : repB okV vs = true) {k : Nat} {q : Int × List Rc} (hq : vs[k]? = some q) : okV q = true ∧ 0 ≤ q.1 ∧ q.1 ≤ 11 := by
  have hg := ((repB_iff.1 h).2 k q (List.getElem?_eq_some_iff.1 hq).1 hq).1
  have h2 := hg
  unfold okV vioV at h2
  rw [Bool.and_eq_true] at h2
  have := (inB_iff 0 q.1 11).1 h2.1
  exact ⟨hg, this⟩
theorem rep_len {vs : List (Int × List Rc)} (h : repB okV vs = true) : vs.length ≤ 256 := (repB_iff.1 h).1


set_option maxHeartbeats 1600000 in
set_option maxRecDepth 100000 in
theorem count_rules_spec (v : Value) (us : List Value) (vs : List (Int × List Rc)) (m : Int) (w : World) (hv : XW w 0 v us vs) :
    Calls Try.prog 22 #[v, .int .i64 m] w fun e w' => ∃ u, e = .returned u ∧ IL w' w.heap.size u (cntV vs m) ∧ Below w.heap.size w w' := by
  cases hr : repB okV vs with
  | false =>
    rw [cntV_no1 hr]
    go_enter Try.func22, Try.ntmps22
    go_wp2_with fail
    refine (report_spec v us vs _ hv).mono ?_
    rintro e w1 ⟨rfl, hb1⟩
    rw [hr]
    go_wp2
    go_ret
    exact ⟨_, rfl, IL.nil _ _, hb1⟩
  | true =>
    cases hm : inB 0 m 12 with
    | false =>
      rw [cntV_no2 hm]
      go_enter Try.func22, Try.ntmps22
      go_wp2_with fail
      refine (report_spec v us vs _ hv).mono ?_
      rintro e w1 ⟨rfl, hb1⟩
      rw [hr]
      go_wp2_with (go_at_call 38; refine (l01In_any _ _ _ _).mono ?_; rintro e w2 ⟨rfl, rfl⟩; rw [hm])
      go_ret
      exact ⟨_, rfl, IL.nil _ _, hb1⟩
    | true =>
      have hm2 := (inB_iff 0 m 12).1 hm
      obtain ⟨n, rfl⟩ : ∃ n : Nat, m = (n : Int) := ⟨m.toNat, by omega⟩
      rw [cntV_yes hr hm]
      have hn12 : n ≤ 12 := by omega
      have Hlen := rep_len hr
      obtain ⟨A, c, rfl, -, -⟩ := hv.form
      obtain ⟨i0, hi0, hz0, hsz0, hby0⟩ := info_parts infoInt
      go_enter Try.func22, Try.ntmps22
      go_wp2_with fail
      refine (report_spec _ us vs _ hv).mono ?_
      rintro e w1 ⟨rfl, hb1⟩
      rw [hr]
      have Hr := Lib.hid hr
      have HV := Lib.hid hv
      clear hr hv
      go_wp2_with (first | (go_at_call 38; refine (l01In_any _ _ _ _).mono ?_; rintro e w2 ⟨rfl, rfl⟩; rw [hm])
                         | (at_make; refine wpList_make_full _ rfl _ _ 45 rfl w1.heap.size 2 i0 _ 1 Try.underlying45 hi0 hz0 hsz0 _ _ _ _ n rfl rfl rfl rfl (by rw [hby0]; omega) (by simp only [maxLen]; omega) (Nat.le_refl _) ?_))
      intro w2 ho2 hg2
      have hI0 : IL w2 w.heap.size (.slice (some ⟨w1.heap.size, 0, none⟩) n n) (cntL (vs.take 0) n) := by
        rw [cntL_start]
        unfold IL
        rw [List.length_replicate, ← valsI_zeros]
        exact own_less ho2 hb1.size
      have hs1 := hb1.size
      have hb2 : Below w.heap.size w w2 := hb1.grown hg2 hb1.size (fun k hk => by cases hk)
      clear ho2 hg2 hi0 hz0 hsz0 hby0 hb1 hm hm2
      go_wp2
      go_loopw [6] (fun iv wr => ∃ k : Nat, k ≤ vs.length ∧ iv = .int .i64 k ∧ IL wr w.heap.size (.slice (some ⟨w1.heap.size, 0, none⟩) n n) (cntL (vs.take k) n) ∧ Below w.heap.size w wr) (fun iv _ => vs.length - (intOf iv).toNat)
      case atStart => exact ⟨0, Nat.zero_le _, rfl, hI0, hb2⟩
      case round =>
        obtain ⟨k, hk, rfl, hI, hb⟩ := hrel
        clear hI0 hb2
        by_cases hlt : k < vs.length
        · obtain ⟨q, hq⟩ : ∃ q, vs[k]? = some q := ⟨_, List.getElem?_eq_getElem hlt⟩
          obtain ⟨g, u, rfl, -, -, -, f0, f1, hR⟩ := (HV.out.on hb).elem hq
          have hru := (rep_rule Hr.out hq).2
          obtain ⟨k1, rs1⟩ := q
          dsimp only at f0 f1 hR hru
          obtain ⟨r, rfl⟩ : ∃ r : Nat, k1 = (r : Int) := ⟨k1.toNat, by omega⟩
          obtain ⟨Au, cu, rfl, -, -, -⟩ := hR.form
          have hr11 : (0 : Int) ≤ (r : Int) ∧ (r : Int) ≤ 11 := by omega
          have hcb := cntAt_bounds (vs.take k) r
          rw [List.length_take, Nat.min_eq_left hk] at hcb
          have hk9 : k < 9223372036854775807 := by omega
          clear hR hru
          by_cases hrn : r < n
          · have Hst := Lib.hid (cnt_yes hq rfl hrn)
            have hrn2 : (r : Int) < (n : Int) := by omega
            have hg0 := cntL_get (vs.take k) hrn
            obtain ⟨_, x, hA, hx, -, -, d0⟩ := hI.elem (k := r) (by rw [cntL_length]; exact hrn)
            rw [hg0] at hx
            cases hx
            cases hA
            have z0 := hI.frozen r
            have hIS := hI.set r (cntAt (vs.take k) r + 1)
            have hcx : -9223372036854775808 ≤ cntAt (vs.take k) r + 1 ∧ cntAt (vs.take k) r + 1 ≤ 9223372036854775807 := by omega
            generalize cntAt (vs.take k) r = y at *
            rw [Hst.out] at hIS
            have hbs := hb.setCell (p := ⟨w1.heap.size, r, none⟩) hs1 (.int .i64 (y + 1))
            clear hI hb hq hg0 Hst
            go_wp2
            exact ⟨⟨k + 1, by omega, by go_num, hIS, hbs⟩, by simp [intOf]; omega⟩
          · have Hst := Lib.hid (cnt_no hq (show ¬ ((r : Int), rs1).1 < (n : Int) by dsimp only; omega))
            have hrn2 : ¬ (r : Int) < (n : Int) := by omega
            clear hq
            go_wp2
            exact ⟨⟨k + 1, by omega, by go_num, by rw [← Hst.out]; exact hI, hb⟩, by simp [intOf]; omega⟩
        · have hke : k = vs.length := by omega
          subst hke
          rw [List.take_length] at hI
          go_wp2
          go_ret
          exact ⟨_, rfl, hI, hb⟩


set_option maxHeartbeats 1600000 in
set_option maxRecDepth 100000 in
theorem count_rules_impl (v : Value) (us : List Value) (vs : List (Int × List Rc)) (m : Int) (w : World) (hv : XW w 0 v us vs) :
    Calls Try.prog 23 #[v, .int .i64 m] w fun e w' => ∃ u, e = .returned u ∧ IL w' w.heap.size u (cntV vs m) ∧ Below w.heap.size w w' := by
  cases hr : repB okV vs with
  | false =>
    rw [cntV_no1 hr]
    go_enter Try.func23, Try.ntmps23
    go_wp2_with fail
    refine (report_impl v us vs _ hv).mono ?_
    rintro e w1 ⟨rfl, hb1⟩
    rw [hr]
    go_wp2
    go_ret
    exact ⟨_, rfl, IL.nil _ _, hb1⟩
  | true =>
    cases hm : inB 0 m 12 with
    | false =>
      rw [cntV_no2 hm]
      go_enter Try.func23, Try.ntmps23
      go_wp2_with fail
      refine (report_impl v us vs _ hv).mono ?_
      rintro e w1 ⟨rfl, hb1⟩
      rw [hr]
      go_wp2_with (go_at_call 41; refine (within_any _ _ _ _).mono ?_; rintro e w2 ⟨rfl, rfl⟩; rw [hm])
      go_ret
      exact ⟨_, rfl, IL.nil _ _, hb1⟩
    | true =>
      have hm2 := (inB_iff 0 m 12).1 hm
      obtain ⟨n, rfl⟩ : ∃ n : Nat, m = (n : Int) := ⟨m.toNat, by omega⟩
      rw [cntV_yes hr hm]
      have hn12 : n ≤ 12 := by omega
      have Hlen := rep_len hr
      obtain ⟨A, c, rfl, -, -⟩ := hv.form
      obtain ⟨i0, hi0, hz0, hsz0, hby0⟩ := info_parts infoInt
      go_enter Try.func23, Try.ntmps23
      go_wp2_with fail
      refine (report_impl _ us vs _ hv).mono ?_
      rintro e w1 ⟨rfl, hb1⟩
      rw [hr]
      have Hr := Lib.hid hr
      have HV := Lib.hid hv
      clear hr hv
      go_wp2_with (first | (go_at_call 41; refine (within_any _ _ _ _).mono ?_; rintro e w2 ⟨rfl, rfl⟩; rw [hm])
                         | (at_make; refine wpList_make_full _ rfl _ _ 45 rfl w1.heap.size 2 i0 _ 1 Try.underlying45 hi0 hz0 hsz0 _ _ _ _ n rfl rfl rfl rfl (by rw [hby0]; omega) (by simp only [maxLen]; omega) (Nat.le_refl _) ?_))
      intro w2 ho2 hg2
      have hI0 : IL w2 w.heap.size (.slice (some ⟨w1.heap.size, 0, none⟩) n n) (cntL (vs.take 0) n) := by
        rw [cntL_start]
        unfold IL
        rw [List.length_replicate, ← valsI_zeros]
        exact own_less ho2 hb1.size
      have hs1 := hb1.size
      have hb2 : Below w.heap.size w w2 := hb1.grown hg2 hb1.size (fun k hk => by cases hk)
      clear ho2 hg2 hi0 hz0 hsz0 hby0 hb1 hm hm2
      go_wp2
      go_loopw [20] (fun iv wr => ∃ k : Nat, k ≤ vs.length ∧ iv = .int .i64 k ∧ IL wr w.heap.size (.slice (some ⟨w1.heap.size, 0, none⟩) n n) (cntL (vs.take k) n) ∧ Below w.heap.size w wr) (fun iv _ => vs.length - (intOf iv).toNat)
      case atStart => exact ⟨0, Nat.zero_le _, rfl, hI0, hb2⟩
      case round =>
        obtain ⟨k, hk, rfl, hI, hb⟩ := hrel
        clear hI0 hb2
        by_cases hlt : k < vs.length
        · obtain ⟨q, hq⟩ : ∃ q, vs[k]? = some q := ⟨_, List.getElem?_eq_getElem hlt⟩
          obtain ⟨g, u, rfl, -, -, -, f0, f1, hR⟩ := (HV.out.on hb).elem hq
          have hru := (rep_rule Hr.out hq).2
          obtain ⟨k1, rs1⟩ := q
          dsimp only at f0 f1 hR hru
          obtain ⟨r, rfl⟩ : ∃ r : Nat, k1 = (r : Int) := ⟨k1.toNat, by omega⟩
          obtain ⟨Au, cu, rfl, -, -, -⟩ := hR.form
          have hr11 : (0 : Int) ≤ (r : Int) ∧ (r : Int) ≤ 11 := by omega
          have hcb := cntAt_bounds (vs.take k) r
          rw [List.length_take, Nat.min_eq_left hk] at hcb
          have hk9 : k < 9223372036854775807 := by omega
          have hI2 : IL _ _ _ _ := World.ownsRow.alloc hI (.cells #[.int .i64 r, .slice Au rs1.length cu] 29)
          have hb2 := hb.alloc hb.size (.cells #[.int .i64 r, .slice Au rs1.length cu] 29)
          clear hR hru
          by_cases hrn : r < n
          · have Hst := Lib.hid (cnt_yes hq rfl hrn)
            have hrn2 : (r : Int) < (n : Int) := by omega
            have hg0 := cntL_get (vs.take k) hrn
            obtain ⟨_, x, hA, hx, -, -, d0⟩ := hI2.elem (k := r) (by rw [cntL_length]; exact hrn)
            rw [hg0] at hx
            cases hx
            cases hA
            have z0 := hI2.frozen r
            have hIS := hI2.set r (cntAt (vs.take k) r + 1)
            have hcx : -9223372036854775808 ≤ cntAt (vs.take k) r + 1 ∧ cntAt (vs.take k) r + 1 ≤ 9223372036854775807 := by omega
            generalize cntAt (vs.take k) r = y at *
            rw [Hst.out] at hIS
            have hbs := hb2.setCell (p := ⟨w1.heap.size, r, none⟩) hs1 (.int .i64 (y + 1))
            clear hI hI2 hb hq hg0 Hst
            go_wp2
            exact ⟨⟨k + 1, by omega, by go_num, hIS, hbs⟩, by simp [intOf]; omega⟩
          · have Hst := Lib.hid (cnt_no hq (show ¬ ((r : Int), rs1).1 < (n : Int) by dsimp only; omega))
            have hrn2 : ¬ (r : Int) < (n : Int) := by omega
            clear hq
            go_wp2
            exact ⟨⟨k + 1, by omega, by go_num, by rw [← Hst.out]; exact hI2, hb2⟩, by simp [intOf]; omega⟩
        · have hke : k = vs.length := by omega
          subst hke
          rw [List.take_length] at hI
          go_wp2
          go_ret
          exact ⟨_, rfl, hI, hb⟩

end Go.Proofs.Ytbljapihmkmolaa
