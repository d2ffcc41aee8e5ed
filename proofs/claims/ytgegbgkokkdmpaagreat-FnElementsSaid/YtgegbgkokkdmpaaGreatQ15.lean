/- Contract: l09DrawLibrary, which draws a valid library. Condition: a well-formed source. -/
import Derived.Test.YtgegbgkokkdmpaaGreatQ14
import Derived.Deep.RegionHeld3

namespace Go.Proofs.YtgegbgkokkdmpaaGreat
open Go.RowKit

theorem run_string_one (W : World) (b : Nat) (x : UInt8) (h : W.cell? ⟨b, 0, none⟩ = some (.int .u8 (x.toNat : Int))) : (convert 22 9 (.slice (some ⟨b, 0, none⟩) 1 1)).run Tryz.prog W = .ok (.string ⟨#[x]⟩) W := by
  have hl : (⟨#[x]⟩ : ByteArray).size = 1 := rfl
  have := Lib.run_convert_whole (P := Tryz.prog) W 22 5 9 Tryz.underlying22 Tryz.underlying5 Tryz.underlying9 b 0 ⟨#[x]⟩ (fun i hi => by
    rw [hl] at hi
    obtain rfl : i = 0 := by omega
    rw [Nat.zero_add, h]
    rfl) 1
  rw [hl] at this
  exact this
theorem u8_at (i : Nat) (h : i ≤ 3) : IntKind.u8.wrap (97 + (i : Int)) = 97 + (i : Int) := by
  have : i = 0 ∨ i = 1 ∨ i = 2 ∨ i = 3 := by omega
  rcases this with rfl | rfl | rfl | rfl <;> rfl
theorem u8_nat (i : Nat) (h : i ≤ 3) : ((UInt8.ofNat (97 + i)).toNat : Int) = 97 + (i : Int) := by
  have : i = 0 ∨ i = 1 ∨ i = 2 ∨ i = 3 := by omega
  rcases this with rfl | rfl | rfl | rfl <;> rfl
theorem name_ok {xb : UInt8} {i : Nat} {nm : ByteArray} (h : xb = UInt8.ofNat (97 + i)) (h2 : nm.data.toList.all byteOk = true ∧ nm.size ≤ 3) : Hid ((⟨#[xb]⟩ ++ nm : ByteArray).data.toList = UInt8.ofNat (97 + i) :: nm.data.toList ∧ nm.data.toList.all byteOk = true ∧ nm.data.toList.length ≤ 3) :=
  Lib.hid ⟨by rw [← h]; simp, h2.1, by simpa using h2.2⟩
theorem grown_cell {w w' : World} {row : Option Nat} (h : w.grownBy w' row) {b : Nat} (hb : b < w.heap.size) (hr : some b ≠ row) (i : Nat) : w'.cell? ⟨b, i, none⟩ = w.cell? ⟨b, i, none⟩ := by
  simp [World.cell?, h.block b hb hr]
theorem o_alloc (w : World) (o : Obj) : Below w.heap.size w (w.alloc o) := (Below.refl _ _).alloc (Nat.le_refl _) o
theorem Hid.imp {p q : Prop} (h : Hid p) (f : p → q) : Hid q := Lib.hid (f h.out)
/-- What is known of cell k of a drawn library. -/
structure CellV (c : CellD) (k : Nat) : Prop where
  name : ∃ r : List UInt8, c.name.data.toList = UInt8.ofNat (97 + k) :: r ∧ r.all byteOk = true ∧ r.length ≤ 3
  s : ∀ s ∈ c.shapes, shapeB s = true
  l : ∀ l ∈ c.labels, labelB l = true
  i : ∀ i ∈ c.insts, instB i k = true
theorem CellV.start (k : Nat) (nm : ByteArray) (r : List UInt8) (h : nm.data.toList = UInt8.ofNat (97 + k) :: r) (h2 : r.all byteOk = true) (h3 : r.length ≤ 3) : CellV ⟨nm, [], [], []⟩ k :=
  ⟨⟨r, h, h2, h3⟩, by simp, by simp, by simp⟩
theorem drawn_snoc {ps : List (CellD × Sl3)} {i : Nat} {c : CellD} (h : ∀ k p, ps[k]? = some p → CellV p.1 k ∧ (p.1.shapes.length ≤ 3 ∧ p.1.labels.length ≤ 3 ∧ p.1.insts.length ≤ 3)) (hi : ps.length = i) (u : Sl3) (hc : CellV c i) (hl : c.shapes.length ≤ 3 ∧ c.labels.length ≤ 3 ∧ c.insts.length ≤ 3) :
    ∀ k p, (ps ++ [(c, u)])[k]? = some p → CellV p.1 k ∧ (p.1.shapes.length ≤ 3 ∧ p.1.labels.length ≤ 3 ∧ p.1.insts.length ≤ 3) := by
  intro k p hp
  rcases Nat.lt_or_ge k ps.length with hk | hk
  · rw [List.getElem?_append_left hk] at hp
    exact h k p hp
  · rw [List.getElem?_append_right hk] at hp
    have hk2 : k - ps.length = 0 := by
      have := (List.getElem?_eq_some_iff.1 hp).1
      simpa using this
    rw [hk2] at hp
    obtain rfl : (c, u) = p := by simpa using hp
    obtain rfl : k = i := by omega
    exact ⟨hc, hl⟩
theorem mem_snoc' {α : Type} {p : α → Prop} {xs : List α} {x : α} (h : ∀ y ∈ xs, p y) (hx : p x) : ∀ y ∈ xs ++ [x], p y := by
  intro y hy
  simp only [List.mem_append, List.mem_singleton] at hy
  rcases hy with hy | rfl
  · exact h y hy
  · exact hx

set_option maxHeartbeats 3200000 in
set_option maxRecDepth 100000 in
/-- l09DrawLibrary. -/
theorem drawLib_any (g : Nat) (w : World) (hD : Dice w g) : Calls Tryz.prog 64 #[.pointer (some ⟨g, 0, none⟩)] w fun e w' => ∃ (cv : Value) (ps : List (CellD × Sl3)), e = .returned (.agg #[cv]) ∧ (1 ≤ ps.length ∧ ps.length ≤ 4) ∧
    (∀ k p, ps[k]? = some p → CellV p.1 k ∧ (p.1.shapes.length ≤ 3 ∧ p.1.labels.length ≤ 3 ∧ p.1.insts.length ≤ 3)) ∧ CW w' w.heap.size cv ps ∧ Apart3 (ps.map Prod.snd) ∧ Dice w' g ∧ w.grownBy w' (some g) := by
  have hg := hD.lt
  have hs0 : (w.alloc (.cells #[.slice none 0 0] 26)).heap.size = w.heap.size + 1 := by simp
  have O0 : DO w ((w.alloc (.cells #[.slice none 0 0] 26)).alloc (.cells #[.slice none 0 0] 26)) g (w.heap.size + 1) (.slice none 0 0) [] :=
    ⟨(hD.alloc _).alloc _, (Bk.new w _ _).alloc _, by have h := Bk.new (w.alloc (.cells #[.slice none 0 0] 26)) 26 #[.slice none 0 0]; rw [hs0] at h; exact h, CW.nil _ _, List.Pairwise.nil, only_alloc (only_alloc (only_refl _ _) _) _, hg, by omega⟩
  clear hD hs0
  go_enter Tryz.func64, Tryz.ntmps64
  go_wp2_with fail
  refine (next_any g 4 _ O0.dice (by omega)).mono ?_
  rintro e w1 ⟨k1, rfl, hk1, hD1, hG1⟩
  have O1 := O0.next hD1 hG1
  have e1 := Go.IntWalk.i64_in (1 + k1) (by omega)
  clear O0 hD1 hG1
  go_wp2
  go_loopw [5] (fun iv wr => ∃ (i : Nat) (cv : Value) (ps : List (CellD × Sl3)), (i : Int) ≤ 1 + k1 ∧ iv = .int .i64 i ∧ ps.length = i ∧ Hid (∀ k p, ps[k]? = some p → CellV p.1 k ∧ (p.1.shapes.length ≤ 3 ∧ p.1.labels.length ≤ 3 ∧ p.1.insts.length ≤ 3)) ∧ DO w wr g (w.heap.size + 1) cv ps) (fun iv _ => (1 + k1 - intOf iv).toNat)
  case atStart => exact ⟨0, _, [], by omega, rfl, rfl, Lib.hid (by simp), O1⟩
  case round =>
    obtain ⟨i, cv, ps, hi, rfl, hps, HV, O⟩ := hrel
    have Hps := Lib.hid hps
    clear hps
    clear O1
    by_cases hlt : (i : Int) < 1 + k1
    · have ei := Go.IntWalk.i64_in (97 + (i : Int)) (by omega)
      go_upto_region 6 with fail
      go_cut [6] from 19 to 27 (fun sv wx => ∃ (cb : Nat) (nm : ByteArray) (r : List UInt8), sv = .pointer (some ⟨cb, 0, none⟩) ∧ Hid (nm.data.toList = UInt8.ofNat (97 + i) :: r ∧ r.all byteOk = true ∧ r.length ≤ 3) ∧ DL w wx g (w.heap.size + 1) cb cv ps nil3 ⟨nm, [], [], []⟩)
      case first =>
        have hi3 : i ≤ 3 := by omega
        have Hw := u8_at i hi3
        obtain ⟨xb, Hxb⟩ : ∃ xb : UInt8, Hid (xb = UInt8.ofNat (97 + i)) := ⟨_, Lib.hid rfl⟩
        have Hcv : ∀ (W : World) (b : Nat), W.cell? ⟨b, 0, none⟩ = some (.int .u8 (97 + (i : Int))) → (convert 22 9 (.slice (some ⟨b, 0, none⟩) 1 1)).run Tryz.prog W = .ok (.string ⟨#[xb]⟩) W := fun W b h => run_string_one W b _ (by rw [Hxb.out, u8_nat i hi3]; exact h)
        have hs1 : (wr.alloc (.cells #[.int .u8 (97 + (i : Int))] 5)).heap.size = wr.heap.size + 1 := by simp
        have hs2 : (wr.alloc (.cells #[.string ⟨#[]⟩, .slice none 0 0, .slice none 0 0, .slice none 0 0] 67)).heap.size = wr.heap.size + 1 := by simp
        have HA := Lib.hid (O.on (Below.refl _ _).drew)
        have HB := Lib.hid (O.on ((Below.refl _ _).alloc (Nat.le_refl _) (.cells #[.int .u8 (97 + (i : Int))] 5)).drew)
        have HC := Lib.hid ((O.begin ⟨#[]⟩).on (Below.refl _ _).drew)
        have HD : Hid (DL w ((wr.alloc (.cells #[.int .u8 (97 + (i : Int))] 5)).alloc (.cells #[.string ⟨#[]⟩, .slice none 0 0, .slice none 0 0, .slice none 0 0] 67)).drew g (w.heap.size + 1) (wr.heap.size + 1) cv ps nil3 ⟨⟨#[]⟩, [], [], []⟩) := Lib.hid (by have h := ((O.on ((Below.refl _ _).alloc (Nat.le_refl _) (.cells #[.int .u8 (97 + (i : Int))] 5))).begin ⟨#[]⟩).on (Below.refl _ _).drew; rw [hs1] at h; exact h)
        have HE := Lib.hid ((O.begin ⟨#[]⟩).on ((Below.refl _ _).alloc (Nat.le_refl _) (.cells #[.int .u8 (97 + (i : Int))] 5)).drew)
        have KB := Lib.hid (Bk.new wr 5 #[.int .u8 (97 + (i : Int))]).drew
        have KD := Lib.hid ((Bk.new wr 5 #[.int .u8 (97 + (i : Int))]).alloc (.cells #[.string ⟨#[]⟩, .slice none 0 0, .slice none 0 0, .slice none 0 0] 67)).drew
        have KE : Hid (Bk ((wr.alloc (.cells #[.string ⟨#[]⟩, .slice none 0 0, .slice none 0 0, .slice none 0 0] 67)).alloc (.cells #[.int .u8 (97 + (i : Int))] 5)).drew (wr.heap.size + 1) 5 #[.int .u8 (97 + (i : Int))]) := Lib.hid (by have h := (Bk.new (wr.alloc (.cells #[.string ⟨#[]⟩, .slice none 0 0, .slice none 0 0, .slice none 0 0] 67)) 5 #[.int .u8 (97 + (i : Int))]).drew; rw [hs2] at h; exact h)
        have hgr : g < wr.heap.size := O.dice.lt
        have hb1g : some wr.heap.size ≠ some g := by simp; omega
        have hb2g : some (wr.heap.size + 1) ≠ some g := by simp; omega
        go_region_law (go_simp; go_at_call 66; first
          | ((with_reducible refine (drawName_any g _ HA.out.dice).mono ?_); rintro e w3 ⟨nm, rfl, ⟨hn0, hn1, hn2⟩, hD3, hG3⟩; have X3 := Lib.hid (HA.out.next hD3 hG3); have Hn := Lib.hid (And.intro hn0 hn2); have hz : ¬ (9223372036854775807 < 1 + nm.size) := (by omega); clear hn0 hD3 hG3; (try dsimp only))
          | ((with_reducible refine (drawName_any g _ HB.out.dice).mono ?_); rintro e w3 ⟨nm, rfl, ⟨hn0, hn1, hn2⟩, hD3, hG3⟩; have X3 := Lib.hid (HB.out.next hD3 hG3); have Hn := Lib.hid (And.intro hn0 hn2); have hz : ¬ (9223372036854775807 < 1 + nm.size) := (by omega); have qs := (KB.out.grown hG3 hb1g).cell 0; have ql := (KB.out.grown hG3 hb1g).lt; clear hn0 hD3 hG3; (try dsimp only))
          | ((with_reducible refine (drawName_any g _ HC.out.o.dice).mono ?_); rintro e w3 ⟨nm, rfl, ⟨hn0, hn1, hn2⟩, hD3, hG3⟩; have X3 := Lib.hid (HC.out.next hD3 hG3); have Hn := Lib.hid (And.intro hn0 hn2); have hz : ¬ (9223372036854775807 < 1 + nm.size) := (by omega); have q0 := X3.out.box.cell 0; have q1 := X3.out.box.cell 1; have q2 := X3.out.box.cell 2; have q3 := X3.out.box.cell 3; have qf := X3.out.box.frozen; have qg := X3.out.box.lt; clear hn0 hD3 hG3; (try dsimp only))
          | ((with_reducible refine (drawName_any g _ HD.out.o.dice).mono ?_); rintro e w3 ⟨nm, rfl, ⟨hn0, hn1, hn2⟩, hD3, hG3⟩; have X3 := Lib.hid (HD.out.next hD3 hG3); have Hn := Lib.hid (And.intro hn0 hn2); have hz : ¬ (9223372036854775807 < 1 + nm.size) := (by omega); have qs := (KD.out.grown hG3 hb1g).cell 0; have ql := (KD.out.grown hG3 hb1g).lt; have q0 := X3.out.box.cell 0; have q1 := X3.out.box.cell 1; have q2 := X3.out.box.cell 2; have q3 := X3.out.box.cell 3; have qf := X3.out.box.frozen; have qg := X3.out.box.lt; clear hn0 hD3 hG3; (try dsimp only))
          | ((with_reducible refine (drawName_any g _ HE.out.o.dice).mono ?_); rintro e w3 ⟨nm, rfl, ⟨hn0, hn1, hn2⟩, hD3, hG3⟩; have X3 := Lib.hid (HE.out.next hD3 hG3); have Hn := Lib.hid (And.intro hn0 hn2); have hz : ¬ (9223372036854775807 < 1 + nm.size) := (by omega); have qs := (KE.out.grown hG3 hb2g).cell 0; have ql := (KE.out.grown hG3 hb2g).lt; have q0 := X3.out.box.cell 0; have q1 := X3.out.box.cell 1; have q2 := X3.out.box.cell 2; have q3 := X3.out.box.cell 3; have qf := X3.out.box.frozen; have qg := X3.out.box.lt; clear hn0 hD3 hG3; (try dsimp only)))
        all_goals
          go_wp2_with fail
          go_meet
          first
            | (with_reducible exact ⟨_, _, _, rfl, name_ok Hxb.out Hn.out, X3.out.begin _⟩)
            | (with_reducible exact ⟨_, _, _, rfl, name_ok Hxb.out Hn.out, (X3.out.begin _).on ((Below.refl _ _).alloc (Nat.le_refl _) _)⟩)
            | (with_reducible exact ⟨_, _, _, rfl, name_ok Hxb.out Hn.out, X3.out.fill _⟩)
            | (with_reducible exact ⟨_, _, _, rfl, name_ok Hxb.out Hn.out, (X3.out.fill _).on ((Below.refl _ _).alloc (Nat.le_refl _) _)⟩)
            | (with_reducible refine ⟨_, _, _, ?_, name_ok Hxb.out Hn.out, (X3.out.on ((Below.refl _ _).alloc (Nat.le_refl _) _)).begin _⟩); simp
      obtain ⟨cb, nm, r0, rfl, HN, L⟩ := hcut
      obtain ⟨w4, rfl⟩ : ∃ W : World, W = wc := ⟨_, rfl⟩
      have HC0 := Lib.hid (CellV.start i nm r0 HN.out.1 HN.out.2.1 HN.out.2.2)
      clear O HN
      go_wp2_with fail
      refine (next_any g 4 _ L.o.dice (by omega)).mono ?_
      rintro e w5 ⟨kk, rfl, hkk, hD5, hG5⟩
      have L5 := L.next hD5 hG5
      clear L hD5 hG5
      obtain ⟨wo, hwo⟩ : ∃ wo, wo = wr := ⟨_, rfl⟩
      subst hwo
      go_wp2
      go_loopw [7] (fun kv wx => ∃ (k : Int) (u : Sl3) (c : CellD), 0 ≤ k ∧ k ≤ 3 ∧ (c.shapes.length : Int) + k ≤ 3 ∧ c.labels = [] ∧ c.insts = [] ∧ kv = .int .i64 k ∧ Hid (CellV c i) ∧ DL w wx g (w.heap.size + 1) cb cv ps u c) (fun kv _ => (intOf kv).toNat)
      case atStart => exact ⟨kk, _, _, by omega, by omega, by simp; omega, rfl, rfl, rfl, HC0, L5⟩
      case round =>
        obtain ⟨k, ⟨uS, uL, uI⟩, ⟨nm1, ss, ls, is⟩, h0, h3, hsl, hz1, hz2, rfl, HV1, L⟩ := hrel
        dsimp only at hsl hz1 hz2
        subst hz1 hz2
        clear L5
        by_cases hk : k > 0
        · have ek := Go.IntWalk.i64_in (k - 1) (by omega)
          obtain ⟨A1, c1, e1, -, hm1⟩ := L.cur.s.form
          dsimp only at e1
          subst e1
          have HL := Lib.hid (L.on (Below.refl _ _).drew)
          have d0 := L.box.cell 1
          have d1 := HL.out.box.cell 1
          have dl := L.box.lt
          have hlen : ss.length ≤ 1000000 := by omega
          clear L
          go_upto_region 10 with fail
          go_region_law (first
            | (go_simp; go_at_call 67; ((with_reducible refine (drawShape_any g _ HL.out.o.dice).mono ?_); rintro e w6 ⟨l, x0, y0, x1, y1, rfl, hsb, hD6, hG6⟩; have L6 := Lib.hid (HL.out.next hD6 hG6); have d6 := L6.out.box.cell 1; have l6 := L6.out.box.lt; have Hsb := Lib.hid hsb; clear hsb hD6 hG6; (try dsimp only)))
            | (refine step_append_F (t := 70) (n := 5) (enc := ShapeD.vals) rfl (.tmp 35) (.tmp 38) 46 40 _ infoShape Tryz.underlying46 rfl (by decide) (by decide) rfl w.heap.size (.slice A1 ss.length c1) ss ⟨l, ⟨x0, y0, x1, y1⟩⟩ rfl (L6.out.on (o_alloc _ _)).cur.s rfl (shapeV_one _) w6.heap.size rfl (Bk.new w6 _ _) hlen (by have := L6.out.o.gro.size; simp; omega) ?_; intro v' w7 k1 k2 k3; obtain ⟨Av, cw, hv', -, -⟩ := k1.form; rw [List.length_append, List.length_singleton] at hv'; subst hv'; have LA := L6.out.on (o_alloc w6 (.cells #[.int .i64 l, .int .i64 x0, .int .i64 y0, .int .i64 x1, .int .i64 y1] 70)); have B7 := LA.box.grown k2 (not_row LA.cur.s LA.box (by decide)); have d7 := B7.cell 1; have f7 := B7.frozen; have L7 := Lib.hid (LA.grow (e := 70) (u' := ⟨.slice Av (ss.length + 1) cw, uL, uI⟩) (c' := ⟨nm1, ss ++ [⟨l, ⟨x0, y0, x1, y1⟩⟩], [], []⟩) 1 (by decide) (fun b hb => .inl hb) LA.cur.s k2 k3 (fun b hb => (by rcases hb with h | h | h; exact .inr h; exact .inl (.inr (.inl h)); exact .inl (.inr (.inr h)))) ⟨k1, World.ownsRow.kept LA.cur.l k2 (own_types LA.cur.l LA.cur.s (by decide)), World.ownsRow.kept LA.cur.i k2 (own_types LA.cur.i LA.cur.s (by decide))⟩ (by simp)); clear LA B7 k1 k2 k3))
          all_goals
            go_wp2
            exact ⟨⟨k - 1, ⟨.slice Av (ss.length + 1) cw, uL, uI⟩, ⟨nm1, ss ++ [⟨l, ⟨x0, y0, x1, y1⟩⟩], [], []⟩, by omega, by omega, by simp; omega, rfl, rfl, rfl, Hid.imp HV1 fun h => ⟨h.name, mem_snoc' h.s Hsb.out, h.l, h.i⟩, L7.out⟩, by simp [intOf]; omega⟩
        · go_wp2_with fail
          obtain ⟨HC0, -⟩ : Hid (CellV ⟨nm1, ss, [], []⟩ i) ∧ True := ⟨HV1, trivial⟩
          clear HV1
          have hq0 : ss.length ≤ 3 := by omega
          refine (next_any g 3 _ L.o.dice (by omega)).mono ?_
          rintro e w5 ⟨kk, rfl, hkk, hD5, hG5⟩
          have L5 := L.next hD5 hG5
          clear L hD5 hG5
          obtain ⟨wo, hwo⟩ : ∃ wo, wo = wr := ⟨_, rfl⟩
          subst hwo
          go_wp2
          go_loopw [8] (fun kv wx => ∃ (k : Int) (u : Sl3) (c : CellD), 0 ≤ k ∧ k ≤ 3 ∧ (c.labels.length : Int) + k ≤ 3 ∧ c.insts = [] ∧ c.shapes.length ≤ 3 ∧ kv = .int .i64 k ∧ Hid (CellV c i) ∧ DL w wx g (w.heap.size + 1) cb cv ps u c) (fun kv _ => (intOf kv).toNat)
          case atStart => exact ⟨kk, _, _, by omega, by omega, by simp; omega, rfl, by first | assumption | (simp; omega) | omega, rfl, HC0, L5⟩
          case round =>
            obtain ⟨k, ⟨uS, uL, uI⟩, ⟨nm1, ss, ls, is⟩, h0, h3, hsl, hz2, hy0, rfl, HV1, L⟩ := hrel
            dsimp only at hsl hz2 hy0
            subst hz2
            clear L5
            by_cases hk : k > 0
            · have ek := Go.IntWalk.i64_in (k - 1) (by omega)
              obtain ⟨A1, c1, e1, -, hm1⟩ := L.cur.l.form
              dsimp only at e1
              subst e1
              have HL := Lib.hid (L.on (Below.refl _ _).drew)
              have d0 := L.box.cell 2
              have d1 := HL.out.box.cell 2
              have dl := L.box.lt
              have hlen : ls.length ≤ 1000000 := by omega
              clear L
              go_upto_region 14 with fail
              go_region_law (first
                | (go_simp; go_at_call 77; ((with_reducible refine (drawLabel_any g _ HL.out.o.dice).mono ?_); rintro e w6 ⟨l, x0, y0, nl, rfl, hsb, -, hD6, hG6⟩; have L6 := Lib.hid (HL.out.next hD6 hG6); have d6 := L6.out.box.cell 2; have l6 := L6.out.box.lt; have Hsb := Lib.hid hsb; clear hsb hD6 hG6; (try dsimp only)))
                | (refine step_append_F (t := 121) (n := 4) (enc := LabelD.vals) rfl (.tmp 48) (.tmp 51) 64 40 _ infoLabel Tryz.underlying64 rfl (by decide) (by decide) rfl w.heap.size (.slice A1 ls.length c1) ls ⟨l, x0, y0, nl⟩ rfl (L6.out.on (o_alloc _ _)).cur.l rfl (labelV_one _) w6.heap.size rfl (Bk.new w6 _ _) hlen (by have := L6.out.o.gro.size; simp; omega) ?_; intro v' w7 k1 k2 k3; obtain ⟨Av, cw, hv', -, -⟩ := k1.form; rw [List.length_append, List.length_singleton] at hv'; subst hv'; have LA := L6.out.on (o_alloc w6 (.cells #[.int .i64 l, .int .i64 x0, .int .i64 y0, .string nl] 121)); have B7 := LA.box.grown k2 (not_row LA.cur.l LA.box (by decide)); have d7 := B7.cell 2; have f7 := B7.frozen; have L7 := Lib.hid (LA.grow (e := 121) (u' := ⟨uS, .slice Av (ls.length + 1) cw, uI⟩) (c' := ⟨nm1, ss, ls ++ [⟨l, x0, y0, nl⟩], []⟩) 2 (by decide) (fun b hb => .inr (.inl hb)) LA.cur.l k2 k3 (fun b hb => (by rcases hb with h | h | h; exact .inl (.inl h); exact .inr h; exact .inl (.inr (.inr h)))) ⟨World.ownsRow.kept LA.cur.s k2 (own_types LA.cur.s LA.cur.l (by decide)), k1, World.ownsRow.kept LA.cur.i k2 (own_types LA.cur.i LA.cur.l (by decide))⟩ (by simp)); clear LA B7 k1 k2 k3))
              all_goals
                go_wp2
                exact ⟨⟨k - 1, ⟨uS, .slice Av (ls.length + 1) cw, uI⟩, ⟨nm1, ss, ls ++ [⟨l, x0, y0, nl⟩], []⟩, by omega, by omega, by simp; omega, rfl, hy0, rfl, Hid.imp HV1 fun h => ⟨h.name, h.s, mem_snoc' h.l Hsb.out, h.i⟩, L7.out⟩, by simp [intOf]; omega⟩
            · go_wp2_with fail
              obtain ⟨HC0, -⟩ : Hid (CellV ⟨nm1, ss, ls, []⟩ i) ∧ True := ⟨HV1, trivial⟩
              clear HV1
              have hq1 : ls.length ≤ 3 := by omega
              refine (next_any g 3 _ L.o.dice (by omega)).mono ?_
              rintro e w5 ⟨kk, rfl, hkk, hD5, hG5⟩
              have L5 := L.next hD5 hG5
              clear L hD5 hG5
              obtain ⟨wo, hwo⟩ : ∃ wo, wo = wr := ⟨_, rfl⟩
              subst hwo
              go_wp2
              go_loopw [9] (fun kv wx => ∃ (k : Int) (u : Sl3) (c : CellD), 0 ≤ k ∧ k ≤ 3 ∧ (c.insts.length : Int) + k ≤ 3 ∧ c.shapes.length ≤ 3 ∧ c.labels.length ≤ 3 ∧ kv = .int .i64 k ∧ Hid (CellV c i) ∧ DL w wx g (w.heap.size + 1) cb cv ps u c) (fun kv _ => (intOf kv).toNat)
              case atStart => exact ⟨kk, _, _, by omega, by omega, by simp; omega, by first | assumption | (simp; omega) | omega, by first | assumption | (simp; omega) | omega, rfl, HC0, L5⟩
              case round =>
                obtain ⟨k, ⟨uS, uL, uI⟩, ⟨nm1, ss, ls, is⟩, h0, h3, hsl, hy0, hy1, rfl, HV1, L⟩ := hrel
                dsimp only at hsl hy0 hy1
                clear L5
                by_cases hk : k > 0
                · by_cases hi : (i : Int) > 0
                  · have ek := Go.IntWalk.i64_in (k - 1) (by omega)
                    obtain ⟨A1, c1, e1, -, hm1⟩ := L.cur.i.form
                    dsimp only at e1
                    subst e1
                    have HL := Lib.hid (L.on (Below.refl _ _).drew)
                    have d0 := L.box.cell 3
                    have d1 := HL.out.box.cell 3
                    have dl := L.box.lt
                    have hlen : is.length ≤ 1000000 := by omega
                    clear L
                    go_upto_region 18 with fail
                    go_region_law (first
                      | (go_simp; go_at_call 65; ((with_reducible refine (drawInst_any g (i : Int) _ HL.out.o.dice (by omega)).mono ?_); rintro e w6 ⟨a0, a1, a2, a3, a4, a5, a6, a7, rfl, hsb, hD6, hG6⟩; have L6 := Lib.hid (HL.out.next hD6 hG6); have d6 := L6.out.box.cell 3; have l6 := L6.out.box.lt; have Hsb := Lib.hid hsb; clear hsb hD6 hG6; (try dsimp only)))
                      | (refine step_append_F (t := 74) (n := 8) (enc := InstD.vals) rfl (.tmp 65) (.tmp 69) 65 64 _ infoInstance Tryz.underlying65 rfl (by decide) (by decide) rfl w.heap.size (.slice A1 is.length c1) is ⟨a0, a1, a2, a3, a4, a5, a6, a7⟩ rfl (L6.out.on (o_alloc _ _)).cur.i rfl (instV_one _) w6.heap.size rfl (Bk.new w6 _ _) hlen (by have := L6.out.o.gro.size; simp; omega) ?_; intro v' w7 k1 k2 k3; obtain ⟨Av, cw, hv', -, -⟩ := k1.form; rw [List.length_append, List.length_singleton] at hv'; subst hv'; have LA := L6.out.on (o_alloc w6 (.cells #[.int .i64 a0, .int .i64 a1, .int .i64 a2, .int .i64 a3, .int .i64 a4, .int .i64 a5, .int .i64 a6, .int .i64 a7] 74)); have B7 := LA.box.grown k2 (not_row LA.cur.i LA.box (by decide)); have d7 := B7.cell 3; have f7 := B7.frozen; have L7 := Lib.hid (LA.grow (e := 74) (u' := ⟨uS, uL, .slice Av (is.length + 1) cw⟩) (c' := ⟨nm1, ss, ls, is ++ [⟨a0, a1, a2, a3, a4, a5, a6, a7⟩]⟩) 3 (by decide) (fun b hb => .inr (.inr hb)) LA.cur.i k2 k3 (fun b hb => (by rcases hb with h | h | h; exact .inl (.inl h); exact .inl (.inr (.inl h)); exact .inr h)) ⟨World.ownsRow.kept LA.cur.s k2 (own_types LA.cur.s LA.cur.i (by decide)), World.ownsRow.kept LA.cur.l k2 (own_types LA.cur.l LA.cur.i (by decide)), k1⟩ (by simp)); clear LA B7 k1 k2 k3))
                    all_goals
                      go_wp2
                      exact ⟨⟨k - 1, ⟨uS, uL, .slice Av (is.length + 1) cw⟩, ⟨nm1, ss, ls, is ++ [⟨a0, a1, a2, a3, a4, a5, a6, a7⟩]⟩, by omega, by omega, by simp; omega, hy0, hy1, rfl, Hid.imp HV1 fun h => ⟨h.name, h.s, h.l, mem_snoc' h.i Hsb.out⟩, L7.out⟩, by simp [intOf]; omega⟩
                  · skip
                    obtain ⟨Ac, cc, ecv, -, hmc⟩ := L.o.cw.form
                    subst ecv
                    have t0 : wr.cell? ⟨w.heap.size + 1, 0, none⟩ = some (.slice Ac ps.length cc) := L.o.lib.cell 0
                    have b0 : wr.cell? ⟨cb, 0, none⟩ = some (.string nm1) := L.box.cell 0
                    have b1 : wr.cell? ⟨cb, 1, none⟩ = some (uS) := L.box.cell 1
                    have b2 : wr.cell? ⟨cb, 2, none⟩ = some (uL) := L.box.cell 2
                    have b3 : wr.cell? ⟨cb, 3, none⟩ = some (uI) := L.box.cell 3
                    have LB := Lib.hid (L.on (o_alloc wr (.cells #[.string nm1, uS, uL, uI] 67)))
                    have HL := Lib.hid L
                    have hlenp : ps.length ≤ 1000000 := by have := Hps.out; omega
                    have hsz := L.o.gro.size
                    have HV2 := drawn_snoc HV.out Hps.out ⟨uS, uL, uI⟩ HV1.out (show ss.length ≤ 3 ∧ ls.length ≤ 3 ∧ is.length ≤ 3 from ⟨by omega, by omega, by omega⟩)
                    have HV3 := Lib.hid HV2
                    clear L HV2
                    go_wp2_with (at_builtin; refine wpList_append_F (t := 67) (n := 4) (enc := cellV) rfl (.tmp 73) (.tmp 75) 24 88 _ infoCell Tryz.underlying24 rfl (by decide) (by decide) rfl w.heap.size (.slice Ac ps.length cc) ps (⟨nm1, ss, ls, is⟩, ⟨uS, uL, uI⟩) rfl HL.out.o.cw.own rfl (cellV_one HL.out.cur) rfl hlenp hsz ?_; intro v' w8 k1 k2; obtain ⟨Av, cw, hv', -, -⟩ := k1.form; rw [List.length_append, List.length_singleton] at hv'; subst hv'; have B8 := LB.out.o.lib.grown k2 (not_row LB.out.o.cw.own LB.out.o.lib (by decide)); have d8 : w8.cell? ⟨w.heap.size + 1, 0, none⟩ = some (.slice Ac ps.length cc) := B8.cell 0; have f8 := B8.frozen; have O8 := Lib.hid (LB.out.push k1 k2); clear B8 k1 k2)
                    exact ⟨⟨i + 1, _, ps ++ [(⟨nm1, ss, ls, is⟩, ⟨uS, uL, uI⟩)], by omega, by go_num, by have := Hps.out; simp; omega, HV3, O8.out⟩, by simp [intOf]; omega⟩
                · skip
                  obtain ⟨Ac, cc, ecv, -, hmc⟩ := L.o.cw.form
                  subst ecv
                  have t0 : wr.cell? ⟨w.heap.size + 1, 0, none⟩ = some (.slice Ac ps.length cc) := L.o.lib.cell 0
                  have b0 : wr.cell? ⟨cb, 0, none⟩ = some (.string nm1) := L.box.cell 0
                  have b1 : wr.cell? ⟨cb, 1, none⟩ = some (uS) := L.box.cell 1
                  have b2 : wr.cell? ⟨cb, 2, none⟩ = some (uL) := L.box.cell 2
                  have b3 : wr.cell? ⟨cb, 3, none⟩ = some (uI) := L.box.cell 3
                  have LB := Lib.hid (L.on (o_alloc wr (.cells #[.string nm1, uS, uL, uI] 67)))
                  have HL := Lib.hid L
                  have hlenp : ps.length ≤ 1000000 := by have := Hps.out; omega
                  have hsz := L.o.gro.size
                  have HV2 := drawn_snoc HV.out Hps.out ⟨uS, uL, uI⟩ HV1.out (show ss.length ≤ 3 ∧ ls.length ≤ 3 ∧ is.length ≤ 3 from ⟨by omega, by omega, by omega⟩)
                  have HV3 := Lib.hid HV2
                  clear L HV2
                  go_wp2_with (at_builtin; refine wpList_append_F (t := 67) (n := 4) (enc := cellV) rfl (.tmp 73) (.tmp 75) 24 88 _ infoCell Tryz.underlying24 rfl (by decide) (by decide) rfl w.heap.size (.slice Ac ps.length cc) ps (⟨nm1, ss, ls, is⟩, ⟨uS, uL, uI⟩) rfl HL.out.o.cw.own rfl (cellV_one HL.out.cur) rfl hlenp hsz ?_; intro v' w8 k1 k2; obtain ⟨Av, cw, hv', -, -⟩ := k1.form; rw [List.length_append, List.length_singleton] at hv'; subst hv'; have B8 := LB.out.o.lib.grown k2 (not_row LB.out.o.cw.own LB.out.o.lib (by decide)); have d8 : w8.cell? ⟨w.heap.size + 1, 0, none⟩ = some (.slice Ac ps.length cc) := B8.cell 0; have f8 := B8.frozen; have O8 := Lib.hid (LB.out.push k1 k2); clear B8 k1 k2)
                  exact ⟨⟨i + 1, _, ps ++ [(⟨nm1, ss, ls, is⟩, ⟨uS, uL, uI⟩)], by omega, by go_num, by have := Hps.out; simp; omega, HV3, O8.out⟩, by simp [intOf]; omega⟩
    · obtain ⟨Ac, cc, ecv, -, hmc⟩ := O.cw.form
      subst ecv
      have t0 : wr.cell? ⟨w.heap.size + 1, 0, none⟩ = some (.slice Ac ps.length cc) := O.lib.cell 0
      have r0 : wr.cell? ⟨w.heap.size, 0, none⟩ = some (.slice none 0 0) := O.res.cell 0
      have fr := O.res.frozen
      have DG := Lib.hid (dg_set ⟨O.dice, O.gro⟩ hg (Nat.le_refl _) 0 (.slice Ac ps.length cc))
      have CW2 := Lib.hid (O.cw.kept (grownBy_put wr w.heap.size 0 (.slice Ac ps.length cc)) (own_otherT O.cw.own O.res (by decide)) (fun p hp b hpb => (by obtain ⟨k, hk⟩ := List.getElem?_of_mem hp; exact (O.cw.each k p hk).other O.res (by decide) b hpb)))
      have HO := Lib.hid O
      have hle : 1 ≤ ps.length ∧ ps.length ≤ 4 := by have := Hps.out; omega
      clear O
      go_wp2
      refine bodyPost_ret (v := .agg #[.slice Ac ps.length cc]) (by simp [results, Tryz.results64, go_sem, *]) rfl ?_
      first
        | exact ⟨_, ps, rfl, hle, HV.out, CW2.out, HO.out.apart, DG.out.1, DG.out.2⟩
        | exact ⟨_, rfl, ps, hle, fun k a b h => HV.out k (a, b) h, CW2.out, HO.out.apart, DG.out.1, DG.out.2⟩

end Go.Proofs.YtgegbgkokkdmpaaGreat
