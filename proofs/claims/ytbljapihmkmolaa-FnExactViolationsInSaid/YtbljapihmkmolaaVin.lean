/- Contracts: ViolationsIn of the reference and of the program. Condition: a list of violations in memory. -/
import Derived.Test.YtbljapihmkmolaaCopy
import Derived.Test.YtbljapihmkmolaaMarkU
import Derived.Deep.RegionHeld3
namespace Go.Proofs.Ytbljapihmkmolaa
open Go.RowKit

def inL (vs : List (Int × List Rc)) (r : Rc) : List (Int × List Rc) := vs.filter fun q => touchB q.2 [r]
noncomputable def vinV (vs : List (Int × List Rc)) (r : Rc) : List (Int × List Rc) := if repB okV vs = true ∧ okRc r = true then inL vs r else []
theorem vinV_yes {vs : List (Int × List Rc)} {r : Rc} (h : repB okV vs = true) (h2 : okRc r = true) : vinV vs r = inL vs r := if_pos ⟨h, h2⟩
theorem vinV_no1 {vs : List (Int × List Rc)} {r : Rc} (h : repB okV vs = false) : vinV vs r = [] := if_neg (by rw [h]; simp)
theorem vinV_no2 {vs : List (Int × List Rc)} {r : Rc} (h : okRc r = false) : vinV vs r = [] := if_neg (by rw [h]; simp)
theorem inL_yes {vs : List (Int × List Rc)} {k : Nat} {q : Int × List Rc} {r : Rc} (h : vs[k]? = some q) (ht : touchB q.2 [r] = true) : inL (vs.take (k + 1)) r = inL (vs.take k) r ++ [q] := by
  unfold inL
  rw [List.take_add_one, h, Option.toList, List.filter_append, List.filter_cons, if_pos ht]
  rfl
theorem inL_no {vs : List (Int × List Rc)} {k : Nat} {q : Int × List Rc} {r : Rc} (h : vs[k]? = some q) (ht : touchB q.2 [r] = false) : inL (vs.take (k + 1)) r = inL (vs.take k) r := by
  unfold inL
  rw [List.take_add_one, h, Option.toList, List.filter_append, List.filter_cons, if_neg (by rw [ht]; simp)]
  simp
theorem inL_len (vs : List (Int × List Rc)) (k : Nat) (r : Rc) : (inL (vs.take k) r).length ≤ k := by
  unfold inL
  exact Nat.le_trans (List.length_filter_le _ _) (by rw [List.length_take]; omega)
theorem size_few : ∀ (vs : List (Int × List Rc)) (n : Nat), (∀ q ∈ vs, q.2.length ≤ n) → sizeV vs ≤ vs.length * n
  | [], _, _ => by simp [sizeV]
  | q :: vs, n, h => by
    have e : sizeV (q :: vs) = q.2.length + sizeV vs := by simp [sizeV]
    have := size_few vs n (fun p hp => h p (List.mem_cons_of_mem _ hp))
    have := h q List.mem_cons_self
    rw [e, List.length_cons, Nat.succ_mul]
    omega
theorem rep_mem {vs : List (Int × List Rc)} (h : repB okV vs = true) {q : Int × List Rc} (hq : q ∈ vs) : okV q = true := by
  obtain ⟨k, hk, e⟩ := List.getElem_of_mem hq
  exact (rep_rule h (show vs[k]? = some q by rw [List.getElem?_eq_getElem hk, e])).1
theorem okV_few {q : Int × List Rc} (h : okV q = true) : q.2.length ≤ 3200 := ((isReg_iff q.2).1 (conn_reg (vio_conn h))).1
theorem vinV_size (vs : List (Int × List Rc)) (r : Rc) : (vinV vs r).length + sizeV (vinV vs r) ≤ 1048576 := by
  unfold vinV
  split
  · rename_i h
    have h1 : (inL vs r).length ≤ 256 := Nat.le_trans (List.length_filter_le _ _) (rep_len h.1)
    have h2 := size_few (inL vs r) 3200 (fun q hq => okV_few (rep_mem h.1 (List.mem_filter.1 hq).1))
    omega
  · simp [sizeV]


set_option maxHeartbeats 3200000 in
set_option maxRecDepth 100000 in
theorem vin_spec (v : Value) (us : List Value) (vs : List (Int × List Rc)) (r : Rc) (w : World) (hv : XW w 0 v us vs) :
    Calls Try.prog 33 #[v, r.val] w fun e w' => ∃ u us', e = .returned u ∧ XW w' w.heap.size u us' (vinV vs r) ∧ Apart us' ∧ Below w.heap.size w w' := by
  obtain ⟨A, c, rfl, -, -⟩ := hv.form
  obtain ⟨x0, y0, x1, y1⟩ := r
  unfold Rc.val
  dsimp only
  have hb0 := (Below.refl w.heap.size w).alloc (Nat.le_refl _) (.cells #[.int .i64 x0, .int .i64 y0, .int .i64 x1, .int .i64 y1] 34)
  have z0 := Bk.new w 34 #[.int .i64 x0, .int .i64 y0, .int .i64 x1, .int .i64 y1]
  have hv0 := hv.alloc (.cells #[.int .i64 x0, .int .i64 y0, .int .i64 x1, .int .i64 y1] 34)
  have HV := Lib.hid hv
  have hsz0 : w.heap.size + 1 ≤ (w.alloc (.cells #[.int .i64 x0, .int .i64 y0, .int .i64 x1, .int .i64 y1] 34)).heap.size := by simp
  clear hv
  cases hr : repB okV vs with
  | false =>
    rw [vinV_no1 hr]
    go_enter Try.func33, Try.ntmps33
    go_wp2_with fail
    refine (report_spec _ us vs _ hv0).mono ?_
    rintro e w1 ⟨rfl, hb1⟩
    rw [hr]
    go_wp2
    go_ret
    exact ⟨_, [], rfl, ⟨rfl, World.ownsRow_nil _ _ _ _, fun k u q hu => by simp at hu⟩, Apart.nil, hb0.trans (hb1.mono hb0.size)⟩
  | true =>
    cases hm : okRc ⟨x0, y0, x1, y1⟩ with
    | false =>
      rw [vinV_no2 hm]
      go_enter Try.func33, Try.ntmps33
      go_wp2_with fail
      refine (report_spec _ us vs _ hv0).mono ?_
      rintro e w1 ⟨rfl, hb1⟩
      rw [hr]
      replace z0 := z0.on hb1
      obtain ⟨c0, c1, c2, c3⟩ := box4 z0
      go_wp2_with fail
      refine (valid_spec ⟨x0, y0, x1, y1⟩ _).mono ?_
      rintro e w2 ⟨rfl, hb2⟩
      rw [hm]
      go_wp2
      go_ret
      have hb01 := hb0.trans (hb1.mono hb0.size)
      exact ⟨_, [], rfl, ⟨rfl, World.ownsRow_nil _ _ _ _, fun k u q hu => by simp at hu⟩, Apart.nil, hb01.trans (hb2.mono hb01.size)⟩
    | true =>
      rw [vinV_yes hr hm]
      have Hlen := rep_len hr
      go_enter Try.func33, Try.ntmps33
      go_wp2_with fail
      refine (report_spec _ us vs _ hv0).mono ?_
      rintro e w1 ⟨rfl, hb1⟩
      rw [hr]
      have Hr := Lib.hid hr
      have Hm := Lib.hid hm
      replace z0 := z0.on hb1
      have b1 := hb0.trans (hb1.mono hb0.size)
      have hs1 : w.heap.size + 1 ≤ w1.heap.size := by have := hb1.size; omega
      obtain ⟨c0, c1, c2, c3⟩ := box4 z0
      clear hr hv0 hb0 hb1 hsz0
      go_wp2_with fail
      refine (valid_spec ⟨x0, y0, x1, y1⟩ _).mono ?_
      rintro e w2 ⟨rfl, hb2⟩
      rw [hm]
      have z2 := (z0.on hb2).alloc (.cells #[] 29)
      have b2 := b1.trans (hb2.mono b1.size)
      have hs2 : w.heap.size + 1 ≤ w2.heap.size := by have := hb2.size; omega
      have b3 := b2.alloc b2.size (.cells #[] 29)
      have o2 : XW (w2.alloc (.cells #[] 29)) (w.heap.size + 1) (.slice (some ⟨w2.heap.size, 0, none⟩) 0 0) [] (inL (vs.take 0) ⟨x0, y0, x1, y1⟩) := XW.lit0 w2 hs2
      have hs3 : w.heap.size + 1 ≤ (w2.alloc (.cells #[] 29)).heap.size := by simp; omega
      clear z0 c0 c1 c2 c3 hm hb2 b1 b2 hs1 hs2
      go_wp2
      go_loopw [5, 6] (fun ov iv wr => ∃ (k : Nat) (us' : List Value), k ≤ vs.length ∧ iv = .int .i64 k ∧ XW wr (w.heap.size + 1) ov us' (inL (vs.take k) ⟨x0, y0, x1, y1⟩) ∧ Apart us' ∧ Bk wr w.heap.size 34 #[.int .i64 x0, .int .i64 y0, .int .i64 x1, .int .i64 y1] ∧ Below w.heap.size w wr ∧ w.heap.size + 1 ≤ wr.heap.size) (fun _ iv _ => vs.length - (intOf iv).toNat)
      case atStart => exact ⟨0, [], Nat.zero_le _, rfl, o2, Apart.nil, z2, b3, hs3⟩
      case round =>
        obtain ⟨k, us', hk, rfl, hO, hap, hZ, hb, hsz⟩ := hrel
        clear o2 z2 b3 hs3
        by_cases hlt : k < vs.length
        · obtain ⟨q, hq⟩ : ∃ q, vs[k]? = some q := ⟨_, List.getElem?_eq_getElem hlt⟩
          obtain ⟨g, u, rfl, -, -, hgw, f0, f1, hR⟩ := (HV.out.on hb).elem hq
          obtain ⟨Au, cu, rfl, -, -, -⟩ := hR.form
          have hokq := (rep_rule Hr.out hq).1
          have Hok := Lib.hid (okV_ok hokq)
          have Hne := Lib.hid (okV_ne hokq)
          have Hfew := Lib.hid (okV_few hokq)
          have Hrok := Lib.hid (show okAll [(⟨x0, y0, x1, y1⟩ : Rc)] = true by simp [okAll, Hm.out])
          have hk9 : k < 9223372036854775807 := by omega
          have Hil := Lib.hid (inL_len vs k ⟨x0, y0, x1, y1⟩)
          obtain ⟨Ao, co, hov, -, -⟩ := hO.form
          subst hov
          have Hq := Lib.hid hq
          clear hq hokq
          have xx := hZ.drew
          have oo := hO.drew
          have tc := hb.drew
          have ll := (HV.out.on hb).drew
          obtain ⟨g', u', hg', hu', -, -, d0, d1, hRd⟩ := ll.elem Hq.out
          cases hg'
          have eu' : u' = .slice Au q.2.length cu := by
            have := d1.symm.trans (show wr.drew.cell? _ = _ from f1)
            injection this
          subst eu'
          have vv := RL.alloc hRd (.cells #[.int .i64 x0, .int .i64 y0, .int .i64 x1, .int .i64 y1] 34)
          have uu := RL.lit wr.drew (B := 0) (Nat.zero_le _) x0 y0 x1 y1
          have xa := xx.alloc (.cells #[.int .i64 x0, .int .i64 y0, .int .i64 x1, .int .i64 y1] 34)
          have oa := oo.alloc (.cells #[.int .i64 x0, .int .i64 y0, .int .i64 x1, .int .i64 y1] 34)
          have ta := tc.alloc tc.size (.cells #[.int .i64 x0, .int .i64 y0, .int .i64 x1, .int .i64 y1] 34)
          have fa := ((Below.refl wr.heap.size wr).alloc (Nat.le_refl _) (.cells #[.int .i64 x0, .int .i64 y0, .int .i64 x1, .int .i64 y1] 34)).cell (p := ⟨g, k * 2 + 1, none⟩) hgw
          have sa : w.heap.size + 1 ≤ (wr.drew.alloc (.cells #[.int .i64 x0, .int .i64 y0, .int .i64 x1, .int .i64 y1] 34)).heap.size := by show _ ≤ (wr.alloc (.cells #[.int .i64 x0, .int .i64 y0, .int .i64 x1, .int .i64 y1] 34)).heap.size; simp; omega
          have fK := Lib.hid (show ∀ wq, Below (wr.drew.alloc (.cells #[.int .i64 x0, .int .i64 y0, .int .i64 x1, .int .i64 y1] 34)).heap.size (wr.drew.alloc (.cells #[.int .i64 x0, .int .i64 y0, .int .i64 x1, .int .i64 y1] 34)) wq → wq.cell? ⟨g, k * 2 + 1, none⟩ = some (.slice Au q.2.length cu) from fun wq hq9 => (hq9.cell (p := ⟨g, k * 2 + 1, none⟩) (by show g < (wr.alloc (.cells #[.int .i64 x0, .int .i64 y0, .int .i64 x1, .int .i64 y1] 34)).heap.size; simp; omega)).trans (fa.trans f1))
          clear hO hZ ll hu' hR hRd d0 d1
          go_wp2
          go_region_held3 (fun w' => w'.cell? ⟨g, k * 2 + 1, none⟩ = some (.slice Au q.2.length cu) ∧ w'.cell? ⟨w.heap.size, 0, none⟩ = some (.int .i64 x0) ∧ w'.cell? ⟨w.heap.size, 1, none⟩ = some (.int .i64 y0) ∧ w'.cell? ⟨w.heap.size, 2, none⟩ = some (.int .i64 x1) ∧ w'.cell? ⟨w.heap.size, 3, none⟩ = some (.int .i64 y1)) (first | with_reducible exact ⟨f1, box4 xx⟩ | exact ⟨f1, box4 xx⟩ | exact ⟨fa.trans f1, box4 xa⟩ | exact ⟨fK.out _ hb7, box4 xb⟩)
            ((go_at_call 53; refine (op_any _ _ q.2 [⟨x0, y0, x1, y1⟩] 8 (.inr rfl) _ vv uu Hok.out Hrok.out).mono ?_; rintro e w7 ⟨z, rfl, hR7, hb7⟩; obtain ⟨A9, c9, rfl, -, -, -⟩ := hR7.form; have xb := xa.on hb7; have ob := oa.on hb7; have tb := ta.trans (hb7.mono ta.size)))
          all_goals
            have hsb : w.heap.size + 1 ≤ w7.heap.size := Nat.le_trans sa hb7.size
            have lb := (HV.out.on tb)
            obtain ⟨g9, u9, hg9, -, -, -, f2, f3, hR9⟩ := lb.elem Hq.out
            cases hg9
            have eu9 : u9 = .slice Au q.2.length cu := by
              have := f3.symm.trans (fK.out _ hb7)
              injection this
            subst eu9
            have ht := touch_no (a := q.2) (b := [⟨x0, y0, x1, y1⟩])
            clear xx oo tc vv uu xa oa ta fa fK f0 f1 hR7 lb hb7 sa
            by_cases htc : touchB q.2 [⟨x0, y0, x1, y1⟩] = true
            · have hpos : (0 : Int) < ((canon (tabG 8 (cellsG q.2) (cellsG [⟨x0, y0, x1, y1⟩]))).length : Int) := by
                rw [htc] at ht
                have : (canon (tabG 8 (cellsG q.2) (cellsG [⟨x0, y0, x1, y1⟩]))).length ≠ 0 := fun h0 => by have := ht.1 h0; cases this
                omega
              have Hst := Lib.hid (inL_yes Hq.out htc)
              clear ht htc
              have Hin := Lib.hid ob.inside
              have Ob := Lib.hid ob
              have Xb := Lib.hid xb
              clear ob xb
              go_wp2_with fail
              refine (copy_spec q.1 _ q.2 _ hR9 Hne.out (by have := Hfew.out; omega)).mono ?_
              rintro e w8 ⟨u8, rfl, hU8, hb8⟩
              have ap8 := hap.snoc (N := w7.heap.size) (fun j x hx b hbo => (Hin.out.2 j x hx b hbo).2) (fun b hbo => (hU8.lt b hbo).1)
              have o8 := Ob.out.on hb8
              have x8 := Lib.hid (Xb.out.on hb8)
              have t8 := tb.trans (hb8.mono tb.size)
              have s8 : w.heap.size + 1 ≤ w8.heap.size := Nat.le_trans hsb hb8.size
              have U8 := hU8.less hsb
              obtain ⟨A8, c8, rfl, -, -, -⟩ := U8.form
              have hil : (inL (vs.take k) ⟨x0, y0, x1, y1⟩).length ≤ 1000000 := by have := Hil.out; omega
              clear hb8 hU8 Ob Xb Hin hR9 f2 f3
              go_wp2_with (at_builtin; refine wpList_append_XW rfl (.tmp 32) (.tmp 38) rfl (w.heap.size + 1) _ us' (inL (vs.take k) ⟨x0, y0, x1, y1⟩) rfl o8 q.1 _ q.2 U8 rfl hil s8 ?_; intro v' w' k1 k3)
              rw [show inL (vs.take k) ⟨x0, y0, x1, y1⟩ ++ [(q.1, q.2)] = inL (vs.take (k + 1)) ⟨x0, y0, x1, y1⟩ from Hst.out.symm] at k1
              exact ⟨⟨k + 1, _, by omega, by go_num, k1, ap8, x8.out.below k3 (Nat.lt_succ_self _), t8.trans (k3.mono (Nat.le_succ _)), Nat.le_trans s8 k3.size⟩, by simp [intOf]; omega⟩
            · have htf : touchB q.2 [⟨x0, y0, x1, y1⟩] = false := by simpa using htc
              have hz0 : ¬ (0 : Int) < ((canon (tabG 8 (cellsG q.2) (cellsG [⟨x0, y0, x1, y1⟩]))).length : Int) := by
                have := ht.2 htf
                omega
              have Hst := Lib.hid (inL_no Hq.out htf)
              clear ht htc htf
              go_wp2
              exact ⟨⟨k + 1, us', by omega, by go_num, by rw [Hst.out]; exact ob, hap, xb, tb, hsb⟩, by simp [intOf]; omega⟩
        · have hke : k = vs.length := by omega
          subst hke
          rw [List.take_length] at hO
          go_wp2
          go_ret
          exact ⟨_, us', rfl, hO.less (Nat.le_succ _), hap, hb⟩


set_option maxHeartbeats 3200000 in
set_option maxRecDepth 100000 in
theorem vin_impl (v : Value) (us : List Value) (vs : List (Int × List Rc)) (r : Rc) (w : World) (hv : XW w 0 v us vs) :
    Calls Try.prog 35 #[v, r.val] w fun e w' => ∃ u us', e = .returned u ∧ XW w' w.heap.size u us' (vinV vs r) ∧ Apart us' ∧ Below w.heap.size w w' := by
  obtain ⟨A, c, rfl, -, -⟩ := hv.form
  obtain ⟨x0, y0, x1, y1⟩ := r
  unfold Rc.val
  dsimp only
  have hb0 := (Below.refl w.heap.size w).alloc (Nat.le_refl _) (.cells #[.int .i64 x0, .int .i64 y0, .int .i64 x1, .int .i64 y1] 34)
  have z0 := Bk.new w 34 #[.int .i64 x0, .int .i64 y0, .int .i64 x1, .int .i64 y1]
  have hv0 := hv.alloc (.cells #[.int .i64 x0, .int .i64 y0, .int .i64 x1, .int .i64 y1] 34)
  have HV := Lib.hid hv
  have hsz0 : w.heap.size + 1 ≤ (w.alloc (.cells #[.int .i64 x0, .int .i64 y0, .int .i64 x1, .int .i64 y1] 34)).heap.size := by simp
  clear hv
  cases hr : repB okV vs with
  | false =>
    rw [vinV_no1 hr]
    go_enter Try.func35, Try.ntmps35
    go_wp2_with fail
    refine (report_impl _ us vs _ hv0).mono ?_
    rintro e w1 ⟨rfl, hb1⟩
    rw [hr]
    go_wp2
    go_ret
    exact ⟨_, [], rfl, ⟨rfl, World.ownsRow_nil _ _ _ _, fun k u q hu => by simp at hu⟩, Apart.nil, hb0.trans (hb1.mono hb0.size)⟩
  | true =>
    cases hm : okRc ⟨x0, y0, x1, y1⟩ with
    | false =>
      rw [vinV_no2 hm]
      go_enter Try.func35, Try.ntmps35
      go_wp2_with fail
      refine (report_impl _ us vs _ hv0).mono ?_
      rintro e w1 ⟨rfl, hb1⟩
      rw [hr]
      replace z0 := z0.on hb1
      obtain ⟨c0, c1, c2, c3⟩ := box4 z0
      go_wp2_with fail
      refine (valid_impl ⟨x0, y0, x1, y1⟩ _).mono ?_
      rintro e w2 ⟨rfl, hb2⟩
      rw [hm]
      go_wp2
      go_ret
      have hb01 := hb0.trans (hb1.mono hb0.size)
      exact ⟨_, [], rfl, ⟨rfl, World.ownsRow_nil _ _ _ _, fun k u q hu => by simp at hu⟩, Apart.nil, hb01.trans (hb2.mono hb01.size)⟩
    | true =>
      rw [vinV_yes hr hm]
      have Hlen := rep_len hr
      go_enter Try.func35, Try.ntmps35
      go_wp2_with fail
      refine (report_impl _ us vs _ hv0).mono ?_
      rintro e w1 ⟨rfl, hb1⟩
      rw [hr]
      have Hr := Lib.hid hr
      have Hm := Lib.hid hm
      replace z0 := z0.on hb1
      have b1 := hb0.trans (hb1.mono hb0.size)
      have hs1 : w.heap.size + 1 ≤ w1.heap.size := by have := hb1.size; omega
      obtain ⟨c0, c1, c2, c3⟩ := box4 z0
      clear hr hv0 hb0 hb1 hsz0
      go_wp2_with fail
      refine (valid_impl ⟨x0, y0, x1, y1⟩ _).mono ?_
      rintro e w2 ⟨rfl, hb2⟩
      rw [hm]
      have z2 := (z0.on hb2).alloc (.cells #[] 29)
      have b2 := b1.trans (hb2.mono b1.size)
      have hs2 : w.heap.size + 1 ≤ w2.heap.size := by have := hb2.size; omega
      have b3 := b2.alloc b2.size (.cells #[] 29)
      have o2 : XW (w2.alloc (.cells #[] 29)) (w.heap.size + 1) (.slice (some ⟨w2.heap.size, 0, none⟩) 0 0) [] (inL (vs.take 0) ⟨x0, y0, x1, y1⟩) := XW.lit0 w2 hs2
      have hs3 : w.heap.size + 1 ≤ (w2.alloc (.cells #[] 29)).heap.size := by simp; omega
      clear z0 c0 c1 c2 c3 hm hb2 b1 b2 hs1 hs2
      go_wp2
      go_loopw [5, 19] (fun ov iv wr => ∃ (k : Nat) (us' : List Value), k ≤ vs.length ∧ iv = .int .i64 k ∧ XW wr (w.heap.size + 1) ov us' (inL (vs.take k) ⟨x0, y0, x1, y1⟩) ∧ Apart us' ∧ Bk wr w.heap.size 34 #[.int .i64 x0, .int .i64 y0, .int .i64 x1, .int .i64 y1] ∧ Below w.heap.size w wr ∧ w.heap.size + 1 ≤ wr.heap.size) (fun _ iv _ => vs.length - (intOf iv).toNat)
      case atStart => exact ⟨0, [], Nat.zero_le _, rfl, o2, Apart.nil, z2, b3, hs3⟩
      case round =>
        obtain ⟨k, us', hk, rfl, hO, hap, hZ, hb, hsz⟩ := hrel
        clear o2 z2 b3 hs3
        by_cases hlt : k < vs.length
        · obtain ⟨q, hq⟩ : ∃ q, vs[k]? = some q := ⟨_, List.getElem?_eq_getElem hlt⟩
          obtain ⟨g, u, rfl, -, -, hgw, f0, f1, hR⟩ := (HV.out.on hb).elem hq
          obtain ⟨Au, cu, rfl, -, -, -⟩ := hR.form
          have hokq := (rep_rule Hr.out hq).1
          have Hok := Lib.hid (okV_ok hokq)
          have Hne := Lib.hid (okV_ne hokq)
          have Hfew := Lib.hid (okV_few hokq)
          have Hrok := Lib.hid (show okAll [(⟨x0, y0, x1, y1⟩ : Rc)] = true by simp [okAll, Hm.out])
          have hk9 : k < 9223372036854775807 := by omega
          have Hil := Lib.hid (inL_len vs k ⟨x0, y0, x1, y1⟩)
          obtain ⟨Ao, co, hov, -, -⟩ := hO.form
          subst hov
          have Hq := Lib.hid hq
          clear hq hokq
          have z1 := hZ.alloc (.cells #[.int .i64 q.1, .slice Au q.2.length cu] 29)
          have z2 := z1.alloc (.cells #[.int .i64 x0, .int .i64 y0, .int .i64 x1, .int .i64 y1] 34)
          have vbx := Lib.hid ((Bk.new wr 29 #[.int .i64 q.1, .slice Au q.2.length cu]).alloc (.cells #[.int .i64 x0, .int .i64 y0, .int .i64 x1, .int .i64 y1] 34))
          have o2 := (hO.alloc (.cells #[.int .i64 q.1, .slice Au q.2.length cu] 29)).alloc (.cells #[.int .i64 x0, .int .i64 y0, .int .i64 x1, .int .i64 y1] 34)
          have r2 := RL.alloc (RL.alloc hR (.cells #[.int .i64 q.1, .slice Au q.2.length cu] 29)) (.cells #[.int .i64 x0, .int .i64 y0, .int .i64 x1, .int .i64 y1] 34)
          have uu := RL.lit (wr.alloc (.cells #[.int .i64 q.1, .slice Au q.2.length cu] 29)) (B := 0) (Nat.zero_le _) x0 y0 x1 y1
          have t2 := (hb.alloc hb.size (.cells #[.int .i64 q.1, .slice Au q.2.length cu] 29)).alloc (hb.alloc hb.size (.cells #[.int .i64 q.1, .slice Au q.2.length cu] 29)).size (.cells #[.int .i64 x0, .int .i64 y0, .int .i64 x1, .int .i64 y1] 34)
          have s2 : w.heap.size + 1 ≤ ((wr.alloc (.cells #[.int .i64 q.1, .slice Au q.2.length cu] 29)).alloc (.cells #[.int .i64 x0, .int .i64 y0, .int .i64 x1, .int .i64 y1] 34)).heap.size := by simp; omega
          have e1 : (wr.alloc (.cells #[.int .i64 q.1, .slice Au q.2.length cu] 29)).heap.size = wr.heap.size + 1 := by simp
          rw [e1] at uu
          obtain ⟨c0, c1, c2, c3⟩ := box4 z1
          have O2 := Lib.hid o2
          have Z2 := Lib.hid z2
          have T2 := Lib.hid t2
          have S2 := Lib.hid s2
          clear hO hZ hR hb z1 z2 o2 t2 e1 s2
          have Htm := Lib.hid (touch_meet Hok.out Hrok.out)
          go_wp2_with fail
          refine (meet_any _ _ q.2 [⟨x0, y0, x1, y1⟩] _ r2 uu Hok.out Hrok.out).mono ?_
          rintro e w7 ⟨rfl, hb7⟩
          rw [Htm.out]
          have ob := O2.out.on hb7
          have xb := Z2.out.on hb7
          have tb := T2.out.trans (hb7.mono T2.out.size)
          have hR9 := RL.on r2 hb7
          have hsb : w.heap.size + 1 ≤ w7.heap.size := Nat.le_trans S2.out hb7.size
          obtain ⟨d0, d1⟩ := box2 (vbx.out.on hb7)
          clear O2 Z2 T2 S2 r2 uu f0 f1 c0 c1 c2 c3 hb7 vbx
          cases htc : touchB q.2 [⟨x0, y0, x1, y1⟩] with
          | true =>
            have Hst := Lib.hid (inL_yes Hq.out htc)
            clear htc
            have Hin := Lib.hid ob.inside
            have Ob := Lib.hid ob
            have Xb := Lib.hid xb
            clear ob xb
            go_wp2_with fail
            refine (copy_impl q.1 _ q.2 _ hR9 Hne.out (by have := Hfew.out; omega)).mono ?_
            rintro e w8 ⟨u8, rfl, hU8, hb8⟩
            have ap8 := hap.snoc (N := w7.heap.size) (fun j x hx b hbo => (Hin.out.2 j x hx b hbo).2) (fun b hbo => (hU8.lt b hbo).1)
            have o8 := Ob.out.on hb8
            have x8 := Lib.hid (Xb.out.on hb8)
            have t8 := tb.trans (hb8.mono tb.size)
            have s8 : w.heap.size + 1 ≤ w8.heap.size := Nat.le_trans hsb hb8.size
            have U8 := hU8.less hsb
            obtain ⟨A8, c8, rfl, -, -, -⟩ := U8.form
            have hil : (inL (vs.take k) ⟨x0, y0, x1, y1⟩).length ≤ 1000000 := by have := Hil.out; omega
            clear hb8 hU8 Ob Xb Hin hR9 d0 d1
            go_wp2_with (at_builtin; refine wpList_append_XW rfl (.tmp 28) (.tmp 31) rfl (w.heap.size + 1) _ us' (inL (vs.take k) ⟨x0, y0, x1, y1⟩) rfl o8 q.1 _ q.2 U8 rfl hil s8 ?_; intro v' w' k1 k3)
            rw [show inL (vs.take k) ⟨x0, y0, x1, y1⟩ ++ [(q.1, q.2)] = inL (vs.take (k + 1)) ⟨x0, y0, x1, y1⟩ from Hst.out.symm] at k1
            exact ⟨⟨k + 1, _, by omega, by go_num, k1, ap8, x8.out.below k3 (Nat.lt_succ_self _), t8.trans (k3.mono (Nat.le_succ _)), Nat.le_trans s8 k3.size⟩, by simp [intOf]; omega⟩
          | false =>
            have Hst := Lib.hid (inL_no Hq.out htc)
            clear htc d0 d1 hR9
            go_wp2
            exact ⟨⟨k + 1, us', by omega, by go_num, by rw [Hst.out]; exact ob, hap, xb, tb, hsb⟩, by simp [intOf]; omega⟩
        · have hke : k = vs.length := by omega
          subst hke
          rw [List.take_length] at hO
          go_wp2
          go_ret
          exact ⟨_, us', rfl, hO.less (Nat.le_succ _), hap, hb⟩

end Go.Proofs.Ytbljapihmkmolaa
