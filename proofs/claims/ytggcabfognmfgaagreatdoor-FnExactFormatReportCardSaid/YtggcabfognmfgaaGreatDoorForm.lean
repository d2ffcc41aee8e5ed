/- Contracts: FormatReport of the reference and of the program. Conditions: a list of violations in memory; for the program: the table of powers of ten is laid. -/
import Derived.Test.YtggcabfognmfgaaGreatDoorNums
import Derived.Test.YtggcabfognmfgaaGreatDoorCountU
import Derived.Test.YtggcabfognmfgaaGreatDoorDrawE
import Derived.Deep.RegionHeld3
namespace Go.Proofs.YtggcabfognmfgaaGreatDoor
open Go.RowKit

theorem spanR_in {a r : Rc} (ha : okRc a = true) (hr : okRc r = true) : okRc (spanR a r) = true := by
  rw [okRc_iff] at *
  unfold spanR
  dsimp only
  omega
theorem fold_in : ∀ (rs : List Rc) (a : Rc), okAll rs = true → okRc a = true → okRc (rs.foldl spanR a) = true
  | [], a, _, ha => ha
  | r :: rs, a, h, ha => by
    have h1 : okRc r = true ∧ okAll rs = true := by simpa [okAll] using h
    exact fold_in rs _ h1.2 (spanR_in ha h1.1)
theorem boxR_in {rs : List Rc} (h : okAll rs = true) (hne : rs ≠ []) : okRc (boxR rs) = true := by
  unfold boxR boxT
  rw [List.take_length]
  match rs, h, hne with
  | r :: l, h, _ =>
    have h1 : okRc r = true ∧ okAll l = true := by simpa [okAll] using h
    exact fold_in _ _ h h1.1

/-- The numbers of a violation's line. -/
def numsV (q : Int × List Rc) : List Int := [q.1, (boxR q.2).x0, (boxR q.2).y0, (boxR q.2).x1, (boxR q.2).y1, sumA q.2]
def lineV (q : Int × List Rc) : List UInt8 := joinV [] (numsV q) ++ [10]
def formL (vs : List (Int × List Rc)) : List UInt8 := (vs.map lineV).flatten
noncomputable def formV (vs : List (Int × List Rc)) : List UInt8 := if repB okV vs = true then formL vs else []
theorem formL_step {vs : List (Int × List Rc)} {k : Nat} {q : Int × List Rc} (h : vs[k]? = some q) : formL (vs.take (k + 1)) = formL (vs.take k) ++ lineV q := by
  unfold formL
  rw [List.take_add_one, h, Option.toList, List.map_append, List.flatten_append]
  simp
theorem nums_in {vs : List (Int × List Rc)} (h : repB okV vs = true) {k : Nat} {q : Int × List Rc} (hq : vs[k]? = some q) : ∀ n ∈ numsV q, -9223372036854775808 ≤ n ∧ n ≤ 9223372036854775807 := by
  obtain ⟨h1, h2, h3⟩ := rep_rule h hq
  have hb := boxR_in (okV_ok h1) (okV_ne h1)
  rw [okRc_iff] at hb
  have hs := sumA_bounds (okV_ok h1)
  have hc := sumA_canon (cellsG q.2)
  rw [canon_of_reg (conn_reg (vio_conn h1))] at hc
  intro n hn
  simp only [numsV, List.mem_cons, List.not_mem_nil, or_false] at hn
  rcases hn with rfl | rfl | rfl | rfl | rfl | rfl <;> omega
theorem joinV_len {ss : List ByteArray} {ns : List Int} (hN : ∀ n ∈ ns, -9223372036854775808 ≤ n ∧ n ≤ 9223372036854775807) (hs : ∀ s ∈ ss, s.size ≤ 21) : (joinV ss ns).length ≤ (ss.length + ns.length) * 22 := by
  unfold joinV
  refine Nat.le_trans (join_len _ _ 21 ?_) (by simp)
  intro y hy
  rcases List.mem_append.1 hy with h | h
  · obtain ⟨s, h', rfl⟩ := List.mem_map.1 h
    exact hs s h'
  · obtain ⟨n, h', rfl⟩ := List.mem_map.1 h
    exact itoa_len (hN n h')

/-- The first k numbers, with blanks between them. -/
def partJ (ns : List Int) (k : Nat) : List UInt8 := Lib.join ((ns.take k).map Lib.itoa) [32]
theorem partJ_zero (ns : List Int) : partJ ns 0 = [] := rfl
theorem join_snoc (xs : List (List UInt8)) (y sep : List UInt8) (h : xs ≠ []) : Lib.join (xs ++ [y]) sep = Lib.join xs sep ++ (sep ++ y) := by
  match xs, h with
  | x :: r, _ =>
    rw [List.cons_append, Lib.join_cons, Lib.join_cons, List.append_assoc]
    simp [Lib.joinTail]
theorem partJ_first {ns : List Int} {n : Int} (h : ns[0]? = some n) : partJ ns 1 = Lib.itoa n := by
  unfold partJ
  rw [List.take_add_one, h]
  simp [Lib.join_one]
theorem partJ_next {ns : List Int} {k : Nat} {n : Int} (hk : 0 < k) (h : ns[k]? = some n) : partJ ns (k + 1) = partJ ns k ++ ([32] ++ Lib.itoa n) := by
  unfold partJ
  have hl : k < ns.length := (List.getElem?_eq_some_iff.1 h).1
  rw [List.take_add_one, h, Option.toList, List.map_append, List.map_cons, List.map_nil, join_snoc]
  intro hc
  have := congrArg List.length hc
  rw [List.length_map, List.length_take, List.length_nil] at this
  omega
theorem partJ_all (ns : List Int) : partJ ns ns.length = joinV [] ns := by
  unfold partJ joinV
  rw [List.take_length]
  rfl

/-! ## Strings as byte lists -/
theorem bytes_eq {s : ByteArray} {l : List UInt8} (h : s = ⟨l.toArray⟩) : s.size = l.length := by subst h; simp [ByteArray.size]

/-- join of six numbers, the result behind a name. -/
def IsStr (l : List UInt8) (n : Nat) (B : Nat) (w : World) (e : Ending) (w' : World) : Prop := ∃ s : ByteArray, e = .returned (.string s) ∧ s = ⟨l.toArray⟩ ∧ s.size ≤ n ∧ Below B w w'
theorem number_is (n : Int) (w : World) (hn : -9223372036854775808 ≤ n ∧ n ≤ 9223372036854775807) : Calls Tryz.prog 14 #[.int .i64 n] w (IsStr (Lib.itoa n) 21 w.heap.size w) := by
  refine (number_spec n w hn).mono fun e w' ⟨he, hb⟩ => ⟨_, he, rfl, ?_, hb⟩
  rw [bytes_eq rfl]
  exact itoa_len hn
theorem add_str (a b : ByteArray) (h : a.size + b.size ≤ 9223372036854775807) (W : World) : (binOp .add 9 (.string a) (.string b)).run Tryz.prog W = .ok (.string (a ++ b)) W := by
  simp [binOp, run_string_add_sum W a b h]
theorem cat3 (a b c : List UInt8) : (⟨a.toArray⟩ : ByteArray) ++ (⟨b.toArray⟩ ++ ⟨c.toArray⟩) = ⟨(a ++ (b ++ c)).toArray⟩ := by rw [ByteArray.mk_append_mk, ByteArray.mk_append_mk]
theorem cat3b (a b c : List UInt8) : ((⟨a.toArray⟩ : ByteArray) ++ ⟨b.toArray⟩) ++ ⟨c.toArray⟩ = ⟨(a ++ (b ++ c)).toArray⟩ := by rw [ByteArray.mk_append_mk, ByteArray.mk_append_mk, List.append_assoc]
theorem one_size (b : UInt8) : (⟨#[b]⟩ : ByteArray).size = 1 := rfl
theorem Tab.alloc {w : World} (h : Tab w) (o : Obj) : Tab (w.alloc o) := h.on ((Below.refl _ _).alloc (Nat.le_refl _) o)
theorem join_is (u : Value) (ns : List Int) (w : World) (hT : Tab w) (hu : IL w 0 u ns) (hN : ∀ n ∈ ns, -9223372036854775808 ≤ n ∧ n ≤ 9223372036854775807) (h6 : ns.length = 6) :
    Calls Tryz.prog 18 #[.slice none 0 0, u] w (IsStr (joinV [] ns) 140 w.heap.size w) := by
  refine (join_any w.heap.size _ u [] ns w hT.at_ (SL.nil _ _) hu (Nat.le_refl _) hN (by simp) (by omega) (by intro h; rw [h] at h6; cases h6) (fun s hs => by cases hs)).mono fun e w' ⟨he, hb⟩ => ⟨_, he, rfl, ?_, hb⟩
  rw [bytes_eq rfl]
  refine Nat.le_trans (joinV_len hN (fun s hs => by cases hs)) ?_
  simp [h6]
theorem IL.lit6 (w : World) (a b c d e f : Int) : IL (w.alloc (.cells #[.int .i64 a, .int .i64 b, .int .i64 c, .int .i64 d, .int .i64 e, .int .i64 f] 2)) 0 (.slice (some ⟨w.heap.size, 0, none⟩) 6 6) [a, b, c, d, e, f] := World.ownsRow_lit w _ 6 (Nat.zero_le _) (by simp [maxLen]) rfl

set_option maxHeartbeats 3200000 in
set_option maxRecDepth 100000 in
theorem form_impl (v : Value) (us : List Value) (vs : List (Int × List Rc)) (w : World) (hv : XW w 0 v us vs) (hT : Tab w) :
    Calls Tryz.prog 7 #[v] w fun e w' => e = .returned (.string ⟨(formV vs).toArray⟩) ∧ Below w.heap.size w w' := by
  obtain ⟨A, c, rfl, -, -⟩ := hv.form
  have HV := Lib.hid hv
  have HT := Lib.hid hT.at_
  clear hT
  cases hr : repB okV vs with
  | false =>
    have e0 : formV vs = [] := if_neg (by rw [hr]; simp)
    rw [e0]
    go_enter Tryz.func7, Tryz.ntmps7
    go_wp2_with fail
    refine (report_impl _ us vs _ hv).mono ?_
    rintro e w1 ⟨rfl, hb1⟩
    rw [hr]
    go_wp2
    go_ret
    exact ⟨rfl, hb1⟩
  | true =>
    have e0 : formV vs = formL vs := if_pos hr
    rw [e0]
    have Hlen := rep_len hr
    go_enter Tryz.func7, Tryz.ntmps7
    go_wp2_with fail
    refine (report_impl _ us vs _ hv).mono ?_
    rintro e w1 ⟨rfl, hb1⟩
    rw [hr]
    have Hr := Lib.hid hr
    clear hr hv e0
    go_wp2
    go_loopw [3, 12] (fun sv iv wr => ∃ (k : Nat) (s : ByteArray), k ≤ vs.length ∧ iv = .int .i64 k ∧ sv = .string s ∧ Hid (s = ⟨(formL (vs.take k)).toArray⟩) ∧ s.size ≤ 200 * k ∧ Below w.heap.size w wr) (fun _ iv _ => vs.length - (intOf iv).toNat)
    case atStart => exact ⟨0, _, Nat.zero_le _, rfl, rfl, Lib.hid rfl, by simp [ByteArray.size], hb1⟩
    case round =>
      obtain ⟨k, s, hk, rfl, rfl, Hs, hsz, hb⟩ := hrel
      clear hb1
      by_cases hlt : k < vs.length
      · obtain ⟨q, hq⟩ : ∃ q, vs[k]? = some q := ⟨_, List.getElem?_eq_getElem hlt⟩
        obtain ⟨g, u, rfl, -, -, -, f0, f1, hR⟩ := (HV.out.on hb).elem hq
        have hru := rep_rule Hr.out hq
        have Hok := Lib.hid (okV_ok hru.1)
        have Hne := Lib.hid (okV_ne hru.1)
        have Hreg := Lib.hid (conn_reg (vio_conn hru.1))
        have Hst := Lib.hid (formL_step hq)
        have HN := Lib.hid (nums_in Hr.out hq)
        obtain ⟨Au, cu, rfl, -, -, -⟩ := hR.form
        have b0 := Bk.new wr 39 #[.int .i64 q.1, .slice Au q.2.length cu]
        have R1 := RL.alloc hR (.cells #[.int .i64 q.1, .slice Au q.2.length cu] 39)
        have t1 := hb.alloc hb.size (.cells #[.int .i64 q.1, .slice Au q.2.length cu] 39)
        obtain ⟨c0, c1⟩ := box2 b0
        have hk9 : k < 9223372036854775807 := by omega
        clear hq hru hR
        go_wp2_with fail
        refine (box_impl _ q.2 _ R1 Hne.out).mono ?_
        rintro e w2 ⟨rfl, hb2⟩
        obtain ⟨x0, y0, x1, y1, Hbox⟩ : ∃ x0 y0 x1 y1, Hid (boxR q.2 = ⟨x0, y0, x1, y1⟩) := ⟨_, _, _, _, Lib.hid rfl⟩
        rw [Hbox.out]
        unfold Rc.val
        dsimp only
        have R2 := RL.alloc (R1.on hb2) (.cells #[.int .i64 x0, .int .i64 y0, .int .i64 x1, .int .i64 y1] 35)
        have z5 := (b0.on hb2).alloc (.cells #[.int .i64 x0, .int .i64 y0, .int .i64 x1, .int .i64 y1] 35)
        have z6 := Bk.new w2 35 #[.int .i64 x0, .int .i64 y0, .int .i64 x1, .int .i64 y1]
        have t1' := t1.trans (hb2.mono t1.size)
        have t2 := t1'.alloc t1'.size (.cells #[.int .i64 x0, .int .i64 y0, .int .i64 x1, .int .i64 y1] 35)
        have HN6 := Lib.hid (show ∀ n ∈ [q.1, x0, y0, x1, y1, sumA q.2], -9223372036854775808 ≤ n ∧ n ≤ 9223372036854775807 from by have := HN.out; unfold numsV at this; rw [Hbox.out] at this; exact this)
        have Hln := Lib.hid (show lineV q = joinV [] [q.1, x0, y0, x1, y1, sumA q.2] ++ [10] by unfold lineV numsV; rw [Hbox.out])
        have Hfew := Lib.hid (show q.2.length ≤ 100000 from Nat.le_trans ((isReg_iff q.2).1 Hreg.out).1 (by decide))
        have HS := Lib.hid (show ∀ W, Below (w2.alloc (.cells #[.int .i64 x0, .int .i64 y0, .int .i64 x1, .int .i64 y1] 35)).heap.size (w2.alloc (.cells #[.int .i64 x0, .int .i64 y0, .int .i64 x1, .int .i64 y1] 35)) W →
          (W.cell? ⟨wr.heap.size, 0, none⟩ = some (.int .i64 q.1) ∧ W.cell? ⟨wr.heap.size, 1, none⟩ = some (.slice Au q.2.length cu)) ∧ W.cell? ⟨w2.heap.size, 0, none⟩ = some (.int .i64 x0) ∧ W.cell? ⟨w2.heap.size, 1, none⟩ = some (.int .i64 y0) ∧ W.cell? ⟨w2.heap.size, 2, none⟩ = some (.int .i64 x1) ∧ W.cell? ⟨w2.heap.size, 3, none⟩ = some (.int .i64 y1) from fun W hW => ⟨box2 (z5.on hW), box4 (z6.on hW)⟩)
        have tc := (Below.refl (w2.alloc (.cells #[.int .i64 x0, .int .i64 y0, .int .i64 x1, .int .i64 y1] 35)).heap.size (w2.alloc (.cells #[.int .i64 x0, .int .i64 y0, .int .i64 x1, .int .i64 y1] 35))).drew
        have rr := RL.drew R2
        have hs2 := t2.size
        have T2 := Lib.hid t2
        clear b0 R1 t1 c0 c1 hb2 t1' f0 f1 z5 z6 HN Hreg Hbox R2 t2
        go_wp2_with fail
        go_region_held3 (fun w' => (w'.cell? ⟨wr.heap.size, 0, none⟩ = some (.int .i64 q.1) ∧ w'.cell? ⟨wr.heap.size, 1, none⟩ = some (.slice Au q.2.length cu)) ∧ w'.cell? ⟨w2.heap.size, 0, none⟩ = some (.int .i64 x0) ∧ w'.cell? ⟨w2.heap.size, 1, none⟩ = some (.int .i64 y0) ∧ w'.cell? ⟨w2.heap.size, 2, none⟩ = some (.int .i64 x1) ∧ w'.cell? ⟨w2.heap.size, 3, none⟩ = some (.int .i64 y1))
          (first | with_reducible exact HS.out _ tc | with_reducible exact HS.out _ (tc.alloc tc.size _))
          (first | (go_at_call 19; refine (regionArea_any _ q.2 _ rr Hok.out Hfew.out).mono ?_; rintro e w7 ⟨rfl, hb7⟩; have tc := tc.trans (hb7.mono tc.size); have ta := Lib.hid ((HT.out.on (T2.out.trans (tc.mono hs2))).here.alloc (.cells #[.int .i64 q.1, .int .i64 x0, .int .i64 y0, .int .i64 x1, .int .i64 y1, .int .i64 (sumA q.2)] 2)); have il := IL.lit6 w7 q.1 x0 y0 x1 y1 (sumA q.2); have tb := tc.alloc tc.size (.cells #[.int .i64 q.1, .int .i64 x0, .int .i64 y0, .int .i64 x1, .int .i64 y1, .int .i64 (sumA q.2)] 2))
                 | (go_at_call 18; refine (join_is _ [q.1, x0, y0, x1, y1, sumA q.2] _ ta.out il HN6.out rfl).mono ?_; rintro e w8 ⟨js, rfl, hjs, hjl, hb8⟩; have Hjs := Lib.hid hjs; clear hjs; have tc := tb.trans (hb8.mono tb.size); have a1 : ¬ (9223372036854775807 < js.size + 1) := (by omega); have a2 : ¬ (9223372036854775807 < s.size + (js.size + 1)) := (by omega)))
        all_goals
          go_wp2
          exact ⟨⟨k + 1, _, hlt, by go_num, rfl, Lib.hid (by rw [Hst.out, Hln.out, Hs.out, Hjs.out]; exact cat3 _ _ _), by rw [ByteArray.size_append, ByteArray.size_append, one_size]; omega, T2.out.trans (tc.mono hs2)⟩, by simp [intOf]; omega⟩
      · have hke : k = vs.length := by omega
        subst hke
        rw [List.take_length] at Hs
        go_wp2
        go_ret
        exact ⟨by rw [Hs.out]; rfl, hb⟩

set_option maxHeartbeats 3200000 in
set_option maxRecDepth 100000 in
theorem form_spec (v : Value) (us : List Value) (vs : List (Int × List Rc)) (w : World) (hv : XW w 0 v us vs) :
    Calls Tryz.prog 5 #[v] w fun e w' => e = .returned (.string ⟨(formV vs).toArray⟩) ∧ Below w.heap.size w w' := by
  obtain ⟨A, c, rfl, -, -⟩ := hv.form
  have HV := Lib.hid hv
  cases hr : repB okV vs with
  | false =>
    have e0 : formV vs = [] := if_neg (by rw [hr]; simp)
    rw [e0]
    go_enter Tryz.func5, Tryz.ntmps5
    go_wp2_with fail
    refine (report_spec _ us vs _ hv).mono ?_
    rintro e w1 ⟨rfl, hb1⟩
    rw [hr]
    go_wp2
    go_ret
    exact ⟨rfl, hb1⟩
  | true =>
    have e0 : formV vs = formL vs := if_pos hr
    rw [e0]
    have Hlen := rep_len hr
    go_enter Tryz.func5, Tryz.ntmps5
    go_wp2_with fail
    refine (report_spec _ us vs _ hv).mono ?_
    rintro e w1 ⟨rfl, hb1⟩
    rw [hr]
    have Hr := Lib.hid hr
    clear hr hv e0
    go_wp2
    go_loopw [3, 4] (fun sv iv wr => ∃ (k : Nat) (s : ByteArray), k ≤ vs.length ∧ iv = .int .i64 k ∧ sv = .string s ∧ Hid (s = ⟨(formL (vs.take k)).toArray⟩) ∧ s.size ≤ 200 * k ∧ Below w.heap.size w wr) (fun _ iv _ => vs.length - (intOf iv).toNat)
    case atStart => exact ⟨0, _, Nat.zero_le _, rfl, rfl, Lib.hid rfl, by simp [ByteArray.size], hb1⟩
    case round =>
      obtain ⟨k, s, hk, rfl, rfl, Hs, hsz, hb⟩ := hrel
      clear hb1
      by_cases hlt : k < vs.length
      · obtain ⟨q, hq⟩ : ∃ q, vs[k]? = some q := ⟨_, List.getElem?_eq_getElem hlt⟩
        obtain ⟨g, u, rfl, -, -, hgw, f0, f1, hR⟩ := (HV.out.on hb).elem hq
        have hru := rep_rule Hr.out hq
        have Hok := Lib.hid (okV_ok hru.1)
        have Hne := Lib.hid (okV_ne hru.1)
        have Hcnt := Lib.hid (show countG (cellsG q.2) = sumA q.2 by rw [← count_canon, canon_of_reg (conn_reg (vio_conn hru.1))])
        have Hst := Lib.hid (formL_step hq)
        have HN := Lib.hid (nums_in Hr.out hq)
        obtain ⟨Au, cu, rfl, -, -, -⟩ := hR.form
        have hk9 : (k : Int) < 9223372036854775807 := by omega
        have hk0 : (0 : Int) ≤ (k : Int) := by omega
        have hkn : (k : Int) < (vs.length : Int) := by omega
        clear hq hru
        go_wp2_with fail
        refine (box_spec _ q.2 _ hR Hne.out).mono ?_
        rintro e w2 ⟨rfl, hb2⟩
        obtain ⟨x0, y0, x1, y1, Hbox⟩ : ∃ x0 y0 x1 y1, Hid (boxR q.2 = ⟨x0, y0, x1, y1⟩) := ⟨_, _, _, _, Lib.hid rfl⟩
        rw [Hbox.out]
        unfold Rc.val
        dsimp only
        have R2 := RL.alloc (RL.on hR hb2) (.cells #[.int .i64 x0, .int .i64 y0, .int .i64 x1, .int .i64 y1] 35)
        have z6 := Bk.new w2 35 #[.int .i64 x0, .int .i64 y0, .int .i64 x1, .int .i64 y1]
        have t0 := hb2.alloc hb2.size (.cells #[.int .i64 x0, .int .i64 y0, .int .i64 x1, .int .i64 y1] 35)
        have t2 := hb.trans (t0.mono hb.size)
        have HN6 := Lib.hid (show ∀ n ∈ [q.1, x0, y0, x1, y1, sumA q.2], -9223372036854775808 ≤ n ∧ n ≤ 9223372036854775807 from by have := HN.out; unfold numsV at this; rw [Hbox.out] at this; exact this)
        have Hln := Lib.hid (show lineV q = joinV [] [q.1, x0, y0, x1, y1, sumA q.2] ++ [10] by unfold lineV numsV; rw [Hbox.out])
        have HS := Lib.hid (show ∀ W, Below (w2.alloc (.cells #[.int .i64 x0, .int .i64 y0, .int .i64 x1, .int .i64 y1] 35)).heap.size (w2.alloc (.cells #[.int .i64 x0, .int .i64 y0, .int .i64 x1, .int .i64 y1] 35)) W →
          (W.cell? ⟨g, k * 2, none⟩ = some (.int .i64 q.1) ∧ W.cell? ⟨g, k * 2 + 1, none⟩ = some (.slice Au q.2.length cu)) ∧ W.cell? ⟨w2.heap.size, 0, none⟩ = some (.int .i64 x0) ∧ W.cell? ⟨w2.heap.size, 1, none⟩ = some (.int .i64 y0) ∧ W.cell? ⟨w2.heap.size, 2, none⟩ = some (.int .i64 x1) ∧ W.cell? ⟨w2.heap.size, 3, none⟩ = some (.int .i64 y1) from fun W hW => by
            have hW2 := t0.trans (hW.mono t0.size)
            exact ⟨⟨(hW2.cell (p := ⟨g, k * 2, none⟩) hgw).trans f0, (hW2.cell (p := ⟨g, k * 2 + 1, none⟩) hgw).trans f1⟩, box4 (z6.on hW)⟩)
        have tc := (Below.refl (w2.alloc (.cells #[.int .i64 x0, .int .i64 y0, .int .i64 x1, .int .i64 y1] 35)).heap.size (w2.alloc (.cells #[.int .i64 x0, .int .i64 y0, .int .i64 x1, .int .i64 y1] 35))).drew
        have rr := RL.drew R2
        have hs2 := t2.size
        have T2 := Lib.hid t2
        clear hR hb2 f0 f1 z6 HN Hbox R2 t2 t0 hgw
        go_wp2_with fail
        go_region_held3 (fun w' => (w'.cell? ⟨g, k * 2, none⟩ = some (.int .i64 q.1) ∧ w'.cell? ⟨g, k * 2 + 1, none⟩ = some (.slice Au q.2.length cu)) ∧ w'.cell? ⟨w2.heap.size, 0, none⟩ = some (.int .i64 x0) ∧ w'.cell? ⟨w2.heap.size, 1, none⟩ = some (.int .i64 y0) ∧ w'.cell? ⟨w2.heap.size, 2, none⟩ = some (.int .i64 x1) ∧ w'.cell? ⟨w2.heap.size, 3, none⟩ = some (.int .i64 y1))
          (first | with_reducible exact HS.out _ tc | with_reducible exact HS.out _ (tc.alloc tc.size _))
          (first | (go_at_call 13; refine (l03Bits_any _ q.2 _ rr Hok.out).mono ?_; rintro e w7 ⟨u7, rfl, hG7, hb7⟩; have tc := tc.trans (hb7.mono tc.size))
                 | (go_at_call 12; refine (l03Count_any _ (cellsG q.2) _ (hG7.less (Nat.zero_le _))).mono ?_; rintro e w8 ⟨rfl, rfl⟩; rw [Hcnt.out]; have il := IL.lit6 w7 q.1 x0 y0 x1 y1 (sumA q.2); have tb := tc.alloc tc.size (.cells #[.int .i64 q.1, .int .i64 x0, .int .i64 y0, .int .i64 x1, .int .i64 y1, .int .i64 (sumA q.2)] 2)))
        all_goals
          obtain ⟨ns, Hns⟩ : ∃ ns, Hid (ns = [q.1, x0, y0, x1, y1, sumA q.2]) := ⟨_, Lib.hid rfl⟩
          rw [← Hns.out] at il
          have Hl6 := Lib.hid (show ns.length = 6 by rw [Hns.out]; rfl)
          have HN := Lib.hid (show ∀ n ∈ ns, -9223372036854775808 ≤ n ∧ n ≤ 9223372036854775807 by rw [Hns.out]; exact HN6.out)
          have tf := T2.out.trans (tb.mono hs2)
          clear HS tc rr hs2 T2 hG7 hb7 tb HN6
          go_wp2
          go_loopw [3, 7] (fun sv jv wi => ∃ (j : Nat) (p : ByteArray), j ≤ 6 ∧ jv = .int .i64 j ∧ sv = .string p ∧ Hid (p = ⟨(formL (vs.take k) ++ partJ ns j).toArray⟩) ∧ p.size ≤ 200 * k + 23 * j ∧ IL wi 0 (.slice (some ⟨w7.heap.size, 0, none⟩) 6 6) ns ∧ Below w.heap.size w wi) (fun _ jv _ => 6 - (intOf jv).toNat)
          case atStart => exact ⟨0, s, by omega, rfl, rfl, Lib.hid (by rw [Hs.out, partJ_zero, List.append_nil]), by omega, il, tf⟩
          case round =>
            obtain ⟨j, p, hj, rfl, rfl, Hp, hps, hI, hbi⟩ := hrel
            clear il tf
            by_cases hlj : j < 6
            · obtain ⟨g2, x, e2, hx, -, -, hc⟩ := hI.elem (k := j) (by rw [Hl6.out]; exact hlj)
              cases e2
              have hxN := HN.out x (List.mem_of_getElem? hx)
              by_cases hj0 : j = 0
              · subst hj0
                have Hx := Lib.hid (partJ_first hx)
                clear hx
                go_wp2_with (go_at_call 14; refine (number_is x _ hxN).mono ?_; rintro e w9 ⟨js, rfl, hjs, hjl, hb9⟩; have Hjs := Lib.hid hjs; clear hjs; have a1 : ¬ (9223372036854775807 < p.size + js.size) := (by omega))
                exact ⟨⟨1, _, by omega, rfl, rfl, Lib.hid (by rw [Hp.out, Hjs.out, partJ_zero, List.append_nil, Hx.out]; exact ByteArray.mk_append_mk _ _), by rw [ByteArray.size_append]; omega, hI.on hb9, hbi.trans (hb9.mono hbi.size)⟩, by simp [intOf]⟩
              · have Hx := Lib.hid (partJ_next (by omega : 0 < j) hx)
                have a0 : ¬ (9223372036854775807 < p.size + 1) := (by omega)
                have hj1 : (0 : Int) < (j : Int) := by omega
                have hj6 : (j : Int) < 6 := by omega
                have hj2 : (0 : Int) ≤ (j : Int) := by omega
                have Hps := Lib.hid hps
                have hj3 : 0 < j := by omega
                clear hx hj0 hps hj
                go_wp2_with (go_at_call 14; refine (number_is x _ hxN).mono ?_; rintro e w9 ⟨js, rfl, hjs, hjl, hb9⟩; have Hjs := Lib.hid hjs; clear hjs; have a1 : ¬ (9223372036854775807 < p.size + 1 + js.size) := (by have := Hps.out; omega))
                exact ⟨⟨j + 1, _, by omega, by go_num, rfl, Lib.hid (by rw [Hp.out, Hjs.out, Hx.out, ← List.append_assoc, show (⟨#[32]⟩ : ByteArray) = ⟨([32] : List UInt8).toArray⟩ from rfl, cat3b]), by rw [ByteArray.size_append, ByteArray.size_append, one_size]; have := Hps.out; omega, hI.on hb9, hbi.trans (hb9.mono hbi.size)⟩, by simp [intOf]; omega⟩
            · obtain rfl : j = 6 := by omega
              have Hpj := Lib.hid (show partJ ns 6 = joinV [] ns by rw [← partJ_all, Hl6.out])
              have a0 : ¬ (9223372036854775807 < p.size + 1) := (by omega)
              go_wp2
              exact ⟨⟨k + 1, _, hlt, by go_num, rfl, Lib.hid (by rw [Hst.out, Hln.out, Hp.out, Hpj.out, ← Hns.out, ← List.append_assoc]; exact ByteArray.mk_append_mk _ [10]), by rw [ByteArray.size_append, one_size]; omega, hbi⟩, by simp [intOf]; omega⟩
      · have hke : k = vs.length := by omega
        subst hke
        rw [List.take_length] at Hs
        go_wp2
        go_ret
        exact ⟨by rw [Hs.out]; rfl, hb⟩

end Go.Proofs.YtggcabfognmfgaaGreatDoor
