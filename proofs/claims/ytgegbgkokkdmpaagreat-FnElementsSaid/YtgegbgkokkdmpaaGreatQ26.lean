/- Contracts: l21DrawTop, l21DrawRule, DrawHierarchicalMarkers. Condition: a well-formed source. -/
import Derived.Test.YtgegbgkokkdmpaaGreatQ20
import Derived.Test.YtgegbgkokkdmpaaGreatQ25

namespace Go.Proofs.YtgegbgkokkdmpaaGreat
open Go.RowKit

theorem rem8 {a : Int} (h : 0 ≤ a) : ∃ m : Nat, m ≤ 7 ∧ a.tmod 8 = (m : Int) := by
  refine ⟨(a % 8).toNat, by omega, ?_⟩
  rw [Int.tmod_eq_emod_of_nonneg h]
  omega
/-- A block of the call's own, apart from the library under way. -/
structure Far (w : World) (lb cb : Nat) (cv : Value) (ps : List (CellD × Sl3)) (u : Sl3) (b : Nat) : Prop where
  hb : w.heap.size < b
  hlb : lb ≠ b
  hcb : cb ≠ b
  hcv : cv.ownBlock ≠ some b
  hps : ∀ p ∈ ps, ∀ x, blkOf p.2 x → x ≠ b
  hu : ∀ x, blkOf u x → x ≠ b
theorem DL.far {w W : World} {g lb cb : Nat} {cv : Value} {ps : List (CellD × Sl3)} {u : Sl3} {c : CellD} (h : DL w W g lb cb cv ps u c) : Far w lb cb cv ps u W.heap.size := by
  obtain ⟨h1, h2, h3⟩ := far_of h.o
  refine ⟨by have := h.o.lib.lt; have := h.o.h1; omega, h2, by have := h.box.lt; omega, h3, h1, fun x hx => ?_⟩
  have := (h.cur.blk hx).2
  omega
theorem DL.put9 {w W : World} {g lb cb b : Nat} {cv : Value} {ps : List (CellD × Sl3)} {u : Sl3} {c : CellD} (h : DL w W g lb cb cv ps u c) (f : Far w lb cb cv ps u b) (i : Nat) (x : Value) : DL w (W.setCell ⟨b, i, none⟩ x) g lb cb cv ps u c :=
  ⟨h.o.other f.hb f.hlb f.hcv f.hps i x, h.box.other (p := ⟨b, i, none⟩) f.hcb x, h.cur.kept (grownBy_put W b i x) (fun y hy e => f.hu y hy (by simpa using e.symm)), h.apart, h.hcv, h.h2⟩

/-- 'out = append(out, x)' for one record; where the list lies afterwards. -/
theorem wpList_append_F4 {α : Type} {t : TypeId} {n : Nat} {enc : α → List Value} {w : World} {ops : Array Oper} {rest : List Oper} {o : Oper} {a : Act} {Q : Exit → Act → World → Prop} (hgd : o.guard = none) (s x : Operand) (st : TypeId) (bytes : Nat) (z : Value)
    (hinfo : (Tryz.prog.info? t).map (fun i => (i.zero, i.size, i.bytes)) = some (some z, n, bytes)) (hst : Tryz.prog.underlying st = some (.slice t)) (hzs : z.cells.size = n) (hsz : 0 < n) (hby : bytes ≤ 100)
    (ho : o.op = .call { callee := .builtin .append, args := #[s, x], argTypes := #[st, st] })
    (B : Nat) (v : Value) (xs : List α) (y : α) (hs : a.eval s = v) (hown : FL t n enc w B v xs) (hcs : (enc y).length = n) (hone : ∀ u ∈ enc y, u.oneCell' = true)
    (hx : a.eval x = .slice (some ⟨w.heap.size, 0, none⟩) 1 1) (hlen : xs.length ≤ 1000000) (hB : B ≤ w.heap.size)
    (h : ∀ v' w', FL t n enc w' B v' (xs ++ [y]) → (w.alloc (.cells (enc y).toArray t)).grownBy w' v.ownBlock → (v'.ownBlock = v.ownBlock ∨ v'.ownBlock = some (w.alloc (.cells (enc y).toArray t)).heap.size) → wpList Tryz.prog ops Q rest (a.put o.dst v') w') :
    wpList Tryz.prog ops Q (o :: rest) a (w.alloc (.cells (enc y).toArray t)) := by
  obtain ⟨i, hi, hz, hsz', hby'⟩ := info_parts hinfo
  have hbytes : (xs.length + 1) * bytes ≤ 140737488355328 := by
    have : (xs.length + 1) * bytes ≤ 1000001 * 100 := Nat.mul_le_mul (by omega) hby
    omega
  refine wpList_append_own_at _ hgd s x st ho B t i z n bytes hst hi hz hsz' hby' hzs hsz v xs.length _ hs (FL.alloc hown _) ⟨w.heap.size, 0, none⟩ 1 1 (enc y) hx (by rw [hcs, Nat.one_mul]) ?_ hone (by simp only [maxLen]; omega) hbytes (by simp; omega) ?_
  · intro j u hu
    rw [Addr.add_lit, World.cell?_alloc_new]
    simpa using hu
  · intro v' w' h1 h2 _ h4
    exact h v' w' (FL.snoc h1) h2 h4

set_option maxHeartbeats 6400000 in
set_option maxRecDepth 100000 in
/-- l21DrawTop. -/
theorem drawTop21_any (g : Nat) (w : World) (hD : Dice w g) : Calls Tryz.prog 12 #[.pointer (some ⟨g, 0, none⟩)] w (DTop w g) := by
  have hg := hD.lt
  have D0 := (DG.refl hD).on (o_alloc w (.cells #[.slice none 0 0] 26))
  have z0 := Bk.new w 26 #[.slice none 0 0]
  have hgi : some w.heap.size ≠ some g := by simp; omega
  clear hD
  go_enter Tryz.func12, Tryz.ntmps12
  go_wp2_with fail
  refine (next_any g 8 _ D0.dice (by omega)).mono ?_
  rintro e w1 ⟨ly, rfl, hly, hD1, hG1⟩
  have D1 := D0.next hD1 hG1
  have z1 := z0.grown hG1 hgi
  have hs1 : w.heap.size < w1.heap.size := z1.lt
  clear D0 z0 hD1 hG1
  have O1 : DO w (w1.alloc (.cells #[.slice none 0 0] 26)) g w1.heap.size (.slice none 0 0) [] := ⟨D1.dice.alloc _, z1.alloc _, Bk.new w1 _ _, CW.nil _ _, List.Pairwise.nil, only_alloc D1.gro _, D1.hg, hs1⟩
  have L1 := O1.begin ⟨#[97]⟩
  rw [show (w1.alloc (.cells #[.slice none 0 0] 26)).heap.size = w1.heap.size + 1 by simp] at L1
  go_upto_region 4 with fail
  obtain ⟨W2, hW2⟩ : ∃ W, W = (w1.alloc (.cells #[.slice none 0 0] 26)).alloc (.cells #[.string ⟨#[97]⟩, .slice none 0 0, .slice none 0 0, .slice none 0 0] 67) := ⟨_, rfl⟩
  rw [← hW2] at L1 ⊢
  clear hW2 O1 D1 z1
  obtain ⟨lb, hlb⟩ : ∃ b, b = w1.heap.size := ⟨_, rfl⟩
  rw [← hlb] at L1 hs1 ⊢
  obtain ⟨cb, hcb⟩ : ∃ b, b = lb + 1 := ⟨_, rfl⟩
  rw [← hcb] at L1 ⊢
  clear hlb hcb
  go_wp2_with fail
  refine (next_any g 3 _ L1.o.dice (by omega)).mono ?_
  rintro e wn ⟨n1, rfl, hn1, hDn, hGn⟩
  have Ln := L1.next hDn hGn
  have in1 := Go.IntWalk.i64_in (n1 + 1) (by omega)
  clear L1 hDn hGn
  go_wp2
  go_loopw [7] (fun kv wx => ∃ (k : Int) (u : Sl3) (ss : List ShapeD), 0 ≤ k ∧ k ≤ 3 ∧ (ss.length : Int) + k ≤ 3 ∧ kv = .int .i64 k ∧ DL w wx g lb cb (.slice none 0 0) [] u ⟨⟨#[97]⟩, ss, [], []⟩) (fun kv _ => (intOf kv).toNat)
  case atStart => exact ⟨n1 + 1, _, _, by omega, by omega, by simp; omega, rfl, Ln⟩
  case round =>
    obtain ⟨k, ⟨uS, uL, uI⟩, ss, h0, h3, hsl, rfl, L⟩ := hrel
    clear Ln
    by_cases hk : k > 0
    · have ek := Go.IntWalk.i64_in (k - 1) (by omega)
      obtain ⟨A1, c1, e1, -, hm1⟩ := L.cur.s.form
      dsimp only at e1
      subst e1
      have HL := Lib.hid (L.on (Below.refl _ _).drew)
      have d0 := L.box.cell 1
      have d1 := HL.out.box.cell 1
      have dl := L.box.lt
      have hlen : ss.length ≤ 1000000 := by omega
      clear L
      go_upto_region 7 with fail
      go_region_law (first
        | (go_simp; go_at_call 24; ((with_reducible refine (next_any g 2 _ HL.out.o.dice (by omega)).mono ?_); rintro e w5 ⟨k2, rfl, hk2, hD5, hG5⟩; have L5 := Lib.hid (HL.out.next hD5 hG5); have d5 := L5.out.box.cell 1; have l5 := L5.out.box.lt; have e5 := Go.IntWalk.i64_in (ly + k2) (by omega); obtain ⟨mr, hmr, emr⟩ := rem8 (a := ly + k2) (by omega); clear hD5 hG5; (try dsimp only)))
        | (go_simp; go_at_call 25; ((with_reducible refine (drawBox_any g _ L5.out.o.dice).mono ?_); rintro e w6 ⟨x0, y0, x1, y1, rfl, -, hD6, hG6⟩; have L6 := Lib.hid (L5.out.next hD6 hG6); have d6 := L6.out.box.cell 1; have l6 := L6.out.box.lt; clear hD6 hG6; (try dsimp only)))
        | (refine step_append_F (t := 70) (n := 5) (enc := ShapeD.vals) rfl (.tmp 24) (.tmp 33) 46 40 _ infoShape Tryz.underlying46 rfl (by decide) (by decide) rfl w.heap.size (.slice A1 ss.length c1) ss ⟨mr, ⟨x0, y0, x1, y1⟩⟩ rfl (L6.out.on (o_alloc _ _)).cur.s rfl (shapeV_one _) w6.heap.size rfl (Bk.new w6 _ _) hlen (by have := L6.out.o.gro.size; simp; omega) ?_; intro v' w7 k1 k2 k3; obtain ⟨Av, cw, hv', -, -⟩ := k1.form; rw [List.length_append, List.length_singleton] at hv'; subst hv'; have LA := L6.out.on (o_alloc w6 (.cells #[.int .i64 mr, .int .i64 x0, .int .i64 y0, .int .i64 x1, .int .i64 y1] 70)); have B7 := LA.box.grown k2 (not_row LA.cur.s LA.box (by decide)); have d7 := B7.cell 1; have f7 := B7.frozen; have L7 := Lib.hid (LA.grow (e := 70) (u' := ⟨.slice Av (ss.length + 1) cw, uL, uI⟩) (c' := ⟨⟨#[97]⟩, ss ++ [⟨mr, ⟨x0, y0, x1, y1⟩⟩], [], []⟩) 1 (by decide) (fun b hb => .inl hb) LA.cur.s k2 k3 (fun b hb => (by rcases hb with h | h | h; exact .inr h; exact .inl (.inr (.inl h)); exact .inl (.inr (.inr h)))) ⟨k1, World.ownsRow.kept LA.cur.l k2 (own_types LA.cur.l LA.cur.s (by decide)), World.ownsRow.kept LA.cur.i k2 (own_types LA.cur.i LA.cur.s (by decide))⟩ (by simp)); clear LA B7 k1 k2 k3))
      all_goals
        go_wp2
        exact ⟨⟨k - 1, ⟨.slice Av (ss.length + 1) cw, uL, uI⟩, ss ++ [⟨mr, ⟨x0, y0, x1, y1⟩⟩], by omega, by omega, by simp; omega, rfl, L7.out⟩, by simp [intOf]; omega⟩
    · have hss : ss.length ≤ 3 := by omega
      clear hsl h0 h3
      have t0 := L.o.lib.cell 0
      have b0 := L.box.cell 0
      have b1 := L.box.cell 1
      have b2 := L.box.cell 2
      have b3 := L.box.cell 3
      simp at t0 b0 b1 b2 b3
      have LB := Lib.hid (L.on (o_alloc wr (.cells #[.string ⟨#[97]⟩, uS, uL, uI] 67)))
      have HL := Lib.hid L
      have hsz := L.o.gro.size
      have tl := L.o.lib.lt
      have bl := L.box.lt
      clear L
      go_upto_region 10 with (at_builtin; refine wpList_append_F (t := 67) (n := 4) (enc := cellV) rfl (.tmp 37) (.tmp 39) 24 88 _ infoCell Tryz.underlying24 rfl (by decide) (by decide) rfl w.heap.size (.slice none 0 0) [] (⟨⟨#[97]⟩, ss, [], []⟩, ⟨uS, uL, uI⟩) rfl HL.out.o.cw.own rfl (cellV_one HL.out.cur) rfl (by simp) hsz ?_; intro v' w8 k1 k2; obtain ⟨Av, cw, hv', -, -⟩ := k1.form; rw [List.length_append, List.length_singleton] at hv'; subst hv'; have B8 := LB.out.o.lib.grown k2 (not_row LB.out.o.cw.own LB.out.o.lib (by decide)); have d8 := B8.cell 0; have f8 := B8.frozen; simp at d8; have O8 := Lib.hid (LB.out.push k1 k2); clear B8 k1 k2)
      have L8 := O8.out.begin ⟨#[98]⟩
      rw [show (w8.setCell ⟨lb, 0, none⟩ (.slice Av ((([] : List (CellD × Sl3))).length + 1) cw)).heap.size = w8.heap.size by simp] at L8
      have SA : Sm (⟨⟨#[97]⟩, ss, [], []⟩ : CellD) := ⟨(show (⟨#[97]⟩ : ByteArray).size ≤ 20 by decide), (by simp), (by dsimp only; simp; omega)⟩
      obtain ⟨cv1, ps1, hp1, HS1, L9⟩ : ∃ (cv1 : Value) (ps1 : List (CellD × Sl3)), Hid (ps1.length = 1) ∧ Hid (∀ p ∈ ps1, Sm p.1) ∧ DL w ((w8.setCell ⟨lb, 0, none⟩ (.slice Av 1 cw)).alloc (.cells #[.string ⟨#[98]⟩, .slice none 0 0, .slice none 0 0, .slice none 0 0] 67)) g lb w8.heap.size cv1 ps1 nil3 ⟨⟨#[98]⟩, [], [], []⟩ := ⟨_, _, Lib.hid rfl, Lib.hid (by intro p hp; rw [List.nil_append, List.mem_singleton] at hp; rw [hp]; exact SA), L8⟩
      obtain ⟨W3, hW3⟩ : ∃ W, W = (w8.setCell ⟨lb, 0, none⟩ (.slice Av 1 cw)).alloc (.cells #[.string ⟨#[98]⟩, .slice none 0 0, .slice none 0 0, .slice none 0 0] 67) := ⟨_, rfl⟩
      rw [← hW3] at L9 ⊢
      obtain ⟨cb2, hcb2⟩ : ∃ b, b = w8.heap.size := ⟨_, rfl⟩
      rw [← hcb2] at L9 ⊢
      clear hW3 hcb2 L8 O8 t0 b0 b1 b2 b3 d8 f8 LB HL hsz tl bl SA hss
      go_wp2_with fail
      refine (next_any g 3 _ L9.o.dice (by omega)).mono ?_
      rintro e wn ⟨n1, rfl, hn1, hDn, hGn⟩
      have Ln := L9.next hDn hGn
      have in1 := Go.IntWalk.i64_in (n1 + 1) (by omega)
      clear L9 hDn hGn
      go_wp2
      go_loopw [9] (fun kv wx => ∃ (k : Int) (u : Sl3) (ss : List ShapeD), 0 ≤ k ∧ k ≤ 3 ∧ (ss.length : Int) + k ≤ 3 ∧ kv = .int .i64 k ∧ DL w wx g lb cb2 cv1 ps1 u ⟨⟨#[98]⟩, ss, [], []⟩) (fun kv _ => (intOf kv).toNat)
      case atStart => exact ⟨n1, _, _, by omega, by omega, by simp; omega, rfl, Ln⟩
      case round =>
        obtain ⟨k, ⟨uS, uL, uI⟩, ss, h0, h3, hsl, rfl, L⟩ := hrel
        clear Ln
        by_cases hk : k > 0
        · have ek := Go.IntWalk.i64_in (k - 1) (by omega)
          obtain ⟨A1, c1, e1, -, hm1⟩ := L.cur.s.form
          dsimp only at e1
          subst e1
          have HL := Lib.hid (L.on (Below.refl _ _).drew)
          have d0 := L.box.cell 1
          have d1 := HL.out.box.cell 1
          have dl := L.box.lt
          have hlen : ss.length ≤ 1000000 := by omega
          clear L
          go_upto_region 13 with fail
          go_region_law (first
            | (go_simp; go_at_call 24; ((with_reducible refine (next_any g 2 _ HL.out.o.dice (by omega)).mono ?_); rintro e w5 ⟨k2, rfl, hk2, hD5, hG5⟩; have L5 := Lib.hid (HL.out.next hD5 hG5); have d5 := L5.out.box.cell 1; have l5 := L5.out.box.lt; have e5 := Go.IntWalk.i64_in (ly + k2) (by omega); obtain ⟨mr, hmr, emr⟩ := rem8 (a := ly + k2) (by omega); clear hD5 hG5; (try dsimp only)))
            | (go_simp; go_at_call 25; ((with_reducible refine (drawBox_any g _ L5.out.o.dice).mono ?_); rintro e w6 ⟨x0, y0, x1, y1, rfl, -, hD6, hG6⟩; have L6 := Lib.hid (L5.out.next hD6 hG6); have d6 := L6.out.box.cell 1; have l6 := L6.out.box.lt; clear hD6 hG6; (try dsimp only)))
            | (refine step_append_F (t := 70) (n := 5) (enc := ShapeD.vals) rfl (.tmp 50) (.tmp 59) 46 40 _ infoShape Tryz.underlying46 rfl (by decide) (by decide) rfl w.heap.size (.slice A1 ss.length c1) ss ⟨mr, ⟨x0, y0, x1, y1⟩⟩ rfl (L6.out.on (o_alloc _ _)).cur.s rfl (shapeV_one _) w6.heap.size rfl (Bk.new w6 _ _) hlen (by have := L6.out.o.gro.size; simp; omega) ?_; intro v' w7 k1 k2 k3; obtain ⟨Av, cw, hv', -, -⟩ := k1.form; rw [List.length_append, List.length_singleton] at hv'; subst hv'; have LA := L6.out.on (o_alloc w6 (.cells #[.int .i64 mr, .int .i64 x0, .int .i64 y0, .int .i64 x1, .int .i64 y1] 70)); have B7 := LA.box.grown k2 (not_row LA.cur.s LA.box (by decide)); have d7 := B7.cell 1; have f7 := B7.frozen; have L7 := Lib.hid (LA.grow (e := 70) (u' := ⟨.slice Av (ss.length + 1) cw, uL, uI⟩) (c' := ⟨⟨#[98]⟩, ss ++ [⟨mr, ⟨x0, y0, x1, y1⟩⟩], [], []⟩) 1 (by decide) (fun b hb => .inl hb) LA.cur.s k2 k3 (fun b hb => (by rcases hb with h | h | h; exact .inr h; exact .inl (.inr (.inl h)); exact .inl (.inr (.inr h)))) ⟨k1, World.ownsRow.kept LA.cur.l k2 (own_types LA.cur.l LA.cur.s (by decide)), World.ownsRow.kept LA.cur.i k2 (own_types LA.cur.i LA.cur.s (by decide))⟩ (by simp)); clear LA B7 k1 k2 k3))
          all_goals
            go_wp2
            exact ⟨⟨k - 1, ⟨.slice Av (ss.length + 1) cw, uL, uI⟩, ss ++ [⟨mr, ⟨x0, y0, x1, y1⟩⟩], by omega, by omega, by simp; omega, rfl, L7.out⟩, by simp [intOf]; omega⟩
        · have hss : ss.length ≤ 3 := by omega
          clear hsl h0 h3
          go_wp2_with fail
          refine (next_any g 3 _ L.o.dice (by omega)).mono ?_
          rintro e wn ⟨n2, rfl, hn2, hDn, hGn⟩
          have Ln := L.next hDn hGn
          have in2 := Go.IntWalk.i64_in (n2 + 1) (by omega)
          clear L hDn hGn
          go_wp2
          go_loopw [10] (fun kv wx => ∃ (k : Int) (u : Sl3) (is : List InstD), 0 ≤ k ∧ k ≤ 3 ∧ (is.length : Int) + k ≤ 3 ∧ kv = .int .i64 k ∧ DL w wx g lb cb2 cv1 ps1 u ⟨⟨#[98]⟩, ss, [], is⟩) (fun kv _ => (intOf kv).toNat)
          case atStart => exact ⟨n2 + 1, _, _, by omega, by omega, by simp; omega, rfl, Ln⟩
          case round =>
            obtain ⟨k, ⟨uS, uL, uI⟩, is, h0, h3, hsl, rfl, L⟩ := hrel
            clear Ln
            by_cases hk : k > 0
            · have ek := Go.IntWalk.i64_in (k - 1) (by omega)
              go_wp2_with fail
              refine (next_any g 8 _ L.o.dice (by omega)).mono ?_
              rintro e wa ⟨qo, rfl, hqo, hDa, hGa⟩
              have La := L.next hDa hGa
              clear L hDa hGa
              go_wp2_with fail
              refine (next_any g 50 _ La.o.dice (by omega)).mono ?_
              rintro e wb ⟨qx, rfl, hqx, hDb, hGb⟩
              have Lb := La.next hDb hGb
              have ex := Go.IntWalk.i64_in (qx - 25) (by omega)
              clear La hDb hGb
              go_wp2_with fail
              refine (next_any g 50 _ Lb.o.dice (by omega)).mono ?_
              rintro e wc ⟨qy, rfl, hqy, hDc, hGc⟩
              have Lc := Lb.next hDc hGc
              have ey := Go.IntWalk.i64_in (qy - 25) (by omega)
              clear Lb hDc hGc
              have F := Lib.hid Lc.far
              have hib : some wc.heap.size ≠ some g := by have := Lc.o.dice.lt; simp; omega
              have Ld := Lc.on (o_alloc wc (.cells #[.int .i64 0, .int .i64 qo, .int .i64 (qx - 25), .int .i64 (qy - 25), .int .i64 1, .int .i64 1, .int .i64 0, .int .i64 0] 74))
              have zi := Bk.new wc 74 #[.int .i64 0, .int .i64 qo, .int .i64 (qx - 25), .int .i64 (qy - 25), .int .i64 1, .int .i64 1, .int .i64 0, .int .i64 0]
              clear Lc
              go_upto_region 18 with fail
              obtain ⟨wd, hwd⟩ : ∃ W, W = wc.alloc (.cells #[.int .i64 0, .int .i64 qo, .int .i64 (qx - 25), .int .i64 (qy - 25), .int .i64 1, .int .i64 1, .int .i64 0, .int .i64 0] 74) := ⟨_, rfl⟩
              obtain ⟨ib, hi9⟩ : ∃ b, b = wc.heap.size := ⟨_, rfl⟩
              rw [← hwd] at Ld zi ⊢
              rw [← hi9] at F hib zi ⊢
              clear hwd hi9
              go_wp2_with fail
              refine (next_any g 3 _ Ld.o.dice (by omega)).mono ?_
              rintro e we ⟨q3, rfl, hq3, hDe, hGe⟩
              have Le := Ld.next hDe hGe
              have ze := zi.grown hGe hib
              clear Ld zi hDe hGe
              by_cases h6 : q3 = 0
              · subst h6
                have c4 := ze.cell 4
                have f4 := ze.frozen 4
                simp at c4
                have Lf := Le.put9 F.out 4 (.int .i64 2)
                have zf := ze.store 4 (.int .i64 2)
                clear Le ze
                go_upto_region 20 with fail
                go_wp2_with fail
                refine (next_any g 31 _ Lf.o.dice (by omega)).mono ?_
                rintro e wh ⟨q5, rfl, hq5, hDh, hGh⟩
                have Lh := Lf.next hDh hGh
                have zh := zf.grown hGh hib
                have e9 := Go.IntWalk.i64_in (q5 - 15) (by omega)
                have c6 := zh.cell 6
                have f6 := zh.frozen 6
                simp at c6
                have Lx := Lh.put9 F.out 6 (.int .i64 (q5 - 15))
                have zx := zh.store 6 (.int .i64 (q5 - 15))
                simp at zx
                clear Lf zf Lh zh hDh hGh
                go_upto_region 21 with fail
                clear c4 f4 c6 f6
                obtain ⟨wk, hwk⟩ : ∃ W, W = wh.setCell ⟨ib, 6, none⟩ (.int .i64 (q5 - 15)) := ⟨_, rfl⟩
                rw [← hwk] at Lx zx ⊢
                clear hwk
                obtain ⟨A3, c3, e3, -, -⟩ := Lx.cur.i.form
                dsimp only at e3
                subst e3
                have b3 := Lx.box.cell 3
                simp at b3
                obtain ⟨m0, m1, m2, m3, m4, m5, m6, m7⟩ := box8 zx
                have LA := Lib.hid (Lx.on (o_alloc _ (.cells #[.int .i64 0, .int .i64 qo, .int .i64 (qx - 25), .int .i64 (qy - 25), .int .i64 2, .int .i64 1, .int .i64 (q5 - 15), .int .i64 0] 74)))
                have HX := Lib.hid Lx
                have hsz := Lx.o.gro.size
                have bl := Lx.box.lt
                have il := zx.lt
                have hlen : is.length ≤ 1000000 := by omega
                clear Lx zx
                go_wp2_with (at_builtin; refine wpList_append_F4 (t := 74) (n := 8) (enc := InstD.vals) rfl (.tmp 88) (.tmp 90) 65 64 _ infoInstance Tryz.underlying65 rfl (by decide) (by decide) rfl w.heap.size (.slice A3 is.length c3) is ⟨0, qo, qx - 25, qy - 25, 2, 1, (q5 - 15), 0⟩ rfl HX.out.cur.i rfl (instV_one _) rfl hlen hsz ?_; intro v' w7 k1 k2 k3; obtain ⟨Av, cw, hv', -, -⟩ := k1.form; rw [List.length_append, List.length_singleton] at hv'; subst hv'; have B7 := LA.out.box.grown k2 (not_row LA.out.cur.i LA.out.box (by decide)); have d7 := B7.cell 3; have f7 := B7.frozen; simp at d7; have L7 := Lib.hid (LA.out.grow (e := 74) (u' := ⟨uS, uL, .slice Av (is.length + 1) cw⟩) (c' := ⟨⟨#[98]⟩, ss, [], is ++ [⟨0, qo, qx - 25, qy - 25, 2, 1, (q5 - 15), 0⟩]⟩) 3 (by decide) (fun b hb => .inr (.inr hb)) LA.out.cur.i k2 k3 (fun b hb => (by rcases hb with h | h | h; exact .inl (.inl h); exact .inl (.inr (.inl h)); exact .inr h)) ⟨World.ownsRow.kept LA.out.cur.s k2 (own_types LA.out.cur.s LA.out.cur.i (by decide)), World.ownsRow.kept LA.out.cur.l k2 (own_types LA.out.cur.l LA.out.cur.i (by decide)), k1⟩ (by simp)); clear B7 k1 k2 k3)
                exact ⟨⟨k - 1, ⟨uS, uL, .slice Av (is.length + 1) cw⟩, is ++ [⟨0, qo, qx - 25, qy - 25, 2, 1, (q5 - 15), 0⟩], by omega, by omega, by simp; omega, rfl, L7.out⟩, by simp [intOf]; omega⟩
              · have hb6 : (q3 == 0) = false := by simpa using h6
                go_upto_region 21 with fail
                obtain ⟨A3, c3, e3, -, -⟩ := Le.cur.i.form
                dsimp only at e3
                subst e3
                have b3 := Le.box.cell 3
                simp at b3
                obtain ⟨m0, m1, m2, m3, m4, m5, m6, m7⟩ := box8 ze
                have LA := Lib.hid (Le.on (o_alloc _ (.cells #[.int .i64 0, .int .i64 qo, .int .i64 (qx - 25), .int .i64 (qy - 25), .int .i64 1, .int .i64 1, .int .i64 0, .int .i64 0] 74)))
                have HX := Lib.hid Le
                have hsz := Le.o.gro.size
                have bl := Le.box.lt
                have il := ze.lt
                have hlen : is.length ≤ 1000000 := by omega
                clear Le ze
                go_wp2_with (at_builtin; refine wpList_append_F4 (t := 74) (n := 8) (enc := InstD.vals) rfl (.tmp 88) (.tmp 90) 65 64 _ infoInstance Tryz.underlying65 rfl (by decide) (by decide) rfl w.heap.size (.slice A3 is.length c3) is ⟨0, qo, qx - 25, qy - 25, 1, 1, 0, 0⟩ rfl HX.out.cur.i rfl (instV_one _) rfl hlen hsz ?_; intro v' w7 k1 k2 k3; obtain ⟨Av, cw, hv', -, -⟩ := k1.form; rw [List.length_append, List.length_singleton] at hv'; subst hv'; have B7 := LA.out.box.grown k2 (not_row LA.out.cur.i LA.out.box (by decide)); have d7 := B7.cell 3; have f7 := B7.frozen; simp at d7; have L7 := Lib.hid (LA.out.grow (e := 74) (u' := ⟨uS, uL, .slice Av (is.length + 1) cw⟩) (c' := ⟨⟨#[98]⟩, ss, [], is ++ [⟨0, qo, qx - 25, qy - 25, 1, 1, 0, 0⟩]⟩) 3 (by decide) (fun b hb => .inr (.inr hb)) LA.out.cur.i k2 k3 (fun b hb => (by rcases hb with h | h | h; exact .inl (.inl h); exact .inl (.inr (.inl h)); exact .inr h)) ⟨World.ownsRow.kept LA.out.cur.s k2 (own_types LA.out.cur.s LA.out.cur.i (by decide)), World.ownsRow.kept LA.out.cur.l k2 (own_types LA.out.cur.l LA.out.cur.i (by decide)), k1⟩ (by simp)); clear B7 k1 k2 k3)
                exact ⟨⟨k - 1, ⟨uS, uL, .slice Av (is.length + 1) cw⟩, is ++ [⟨0, qo, qx - 25, qy - 25, 1, 1, 0, 0⟩], by omega, by omega, by simp; omega, rfl, L7.out⟩, by simp [intOf]; omega⟩
            · obtain ⟨Ac, cc, ecv, -, -⟩ := L.o.cw.form
              subst ecv
              have t0 := L.o.lib.cell 0
              have b0 := L.box.cell 0
              have b1 := L.box.cell 1
              have b2 := L.box.cell 2
              have b3 := L.box.cell 3
              simp at t0 b0 b1 b2 b3
              have LB := Lib.hid (L.on (o_alloc wr (.cells #[.string ⟨#[98]⟩, uS, uL, uI] 67)))
              have HL := Lib.hid L
              have hsz := L.o.gro.size
              have tl := L.o.lib.lt
              have bl := L.box.lt
              clear L
              go_upto_region 23 with (at_builtin; refine wpList_append_F (t := 67) (n := 4) (enc := cellV) rfl (.tmp 94) (.tmp 96) 24 88 _ infoCell Tryz.underlying24 rfl (by decide) (by decide) rfl w.heap.size (.slice Ac ps1.length cc) ps1 (⟨⟨#[98]⟩, ss, [], is⟩, ⟨uS, uL, uI⟩) rfl HL.out.o.cw.own rfl (cellV_one HL.out.cur) rfl (by have := hp1.out; omega) hsz ?_; intro v' w8 k1 k2; obtain ⟨Av, cw, hv', -, -⟩ := k1.form; rw [List.length_append, List.length_singleton] at hv'; subst hv'; have B8 := LB.out.o.lib.grown k2 (not_row LB.out.o.cw.own LB.out.o.lib (by decide)); have d8 := B8.cell 0; have f8 := B8.frozen; simp at d8; have O8 := Lib.hid (LB.out.push k1 k2); clear B8 k1 k2)
              have hl9 : ps1.length + 1 = 2 := by have := hp1.out; omega
              have O9 := O8.out
              have SB : Sm (⟨⟨#[98]⟩, ss, [], is⟩ : CellD) := ⟨(show (⟨#[98]⟩ : ByteArray).size ≤ 20 by decide), (by simp), (by dsimp only; simp; omega)⟩
              obtain ⟨ps2, hp2, HS2, OX⟩ : ∃ ps2 : List (CellD × Sl3), Hid (ps2.length = 2 ∧ ps1.length + 1 = ps2.length) ∧ Hid (∀ p ∈ ps2, Sm p.1) ∧ DO w (w8.setCell ⟨lb, 0, none⟩ (.slice Av (ps1.length + 1) cw)) g lb (.slice Av (ps1.length + 1) cw) ps2 := ⟨_, Lib.hid ⟨by simp; exact hp1.out, by simp⟩, Lib.hid (mem_snoc' HS1.out SB), O9⟩
              clear O8 O9 SB hl9 t0 b0 b1 b2 b3 LB HL hsz tl bl d8 f8
              rw [hp2.out.2] at OX ⊢
              obtain ⟨W9, hW9⟩ : ∃ W, W = w8.setCell ⟨lb, 0, none⟩ (.slice Av ps2.length cw) := ⟨_, rfl⟩
              rw [← hW9] at OX ⊢
              clear hW9
              go_wp2_with fail
              refine (next_any g 9 _ OX.dice (by omega)).mono ?_
              rintro e wa ⟨q9, rfl, hq9, hDa, hGa⟩
              have Oa := OX.next hDa hGa
              clear OX hDa hGa
              by_cases h9 : q9 = 0
              · subst h9
                go_wp2_with (go_at_call 26; (with_reducible refine (drawTop10_any g _ Oa.dice).mono ?_); rintro e wb ⟨cv3, ps3, k9, rfl, hn, hS, hC, hDb, hGb⟩; obtain ⟨A5, c5, rfl, -, -⟩ := hC.form; have fr := (Oa.res.grown hGb hgi).frozen 0; have r0 := (Oa.res.grown hGb hgi).cell 0; simp at r0)
                refine bodyPost_ret (v := .tuple #[.agg #[.slice A5 ps3.length c5], .int .i64 k9]) (by simp [results, Tryz.results12, go_sem, *]) rfl ?_
                have G9 := ((⟨Oa.dice, Oa.gro, hg⟩ : DG w wa g).next hDb hGb).put (b := w.heap.size) (Nat.le_refl _) 0 (.slice A5 ps3.length c5)
                have hlt9 : w.heap.size < wa.heap.size := Oa.res.lt
                exact ⟨_, ps3, k9, rfl, hn, hS, (hC.far (p := ⟨w.heap.size, 0, none⟩) hlt9 _).less (Nat.le_of_lt hlt9), G9.dice, G9.gro⟩
              · have hb9 : (q9 == 0) = false := by simpa using h9
                have hp4 : ps2.length ≤ 4 := by have := hp2.out.1; omega
                have i1 := Go.IntWalk.i64_in ((ps2.length : Int) - 1) (by omega)
                have l0 := Oa.lib.cell 0
                have ll := Oa.lib.lt
                have fr := Oa.res.frozen 0
                have r0 := Oa.res.cell 0
                simp at l0 r0
                have hne : w.heap.size ≠ lb := Nat.ne_of_lt Oa.h1
                have Ob := Oa.on (Below.refl _ _).drew
                have G9 := Lib.hid ((⟨Ob.dice, Ob.gro, hg⟩ : DG w wa.drew g).put (b := w.heap.size) (Nat.le_refl _) 0 (.slice Av ps2.length cw))
                have C9 := Lib.hid (Ob.cw.kept (grownBy_put wa.drew w.heap.size 0 (.slice Av ps2.length cw)) (own_otherT Ob.cw.own Ob.res (by decide)) (fun p hp b hpb => (by obtain ⟨k, hk⟩ := List.getElem?_of_mem hp; exact (Ob.cw.each k p hk).other Ob.res (by decide) b hpb)))
                have HP := Lib.hid (show 1 ≤ ps2.length ∧ ps2.length ≤ 4 by have := hp2.out.1; omega)
                clear Oa Ob hp4
                go_upto_region 25 with fail
                go_region
                all_goals
                  go_wp2
                  refine bodyPost_ret (v := .tuple #[.agg #[.slice Av ps2.length cw], .int .i64 ((ps2.length : Int) - 1)]) (by simp [results, Tryz.results12, go_sem, *]) rfl ?_
                  exact ⟨_, ps2, _, rfl, HP.out, HS2.out, C9.out, G9.out.dice, G9.out.gro⟩

end Go.Proofs.YtgegbgkokkdmpaaGreat
