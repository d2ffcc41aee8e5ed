/- Contracts: the laws' copies of cells and libraries, comparisons of equal ones. Conditions: few elements. -/
import Derived.Test.YtfgpkhifbflnbaaGreatDoorLibL
import Derived.Deep.RegionHeld3
namespace Go.Proofs.YtfgpkhifbflnbaaGreatDoor
open Go.RowKit

theorem FL.far {α : Type} {t : TypeId} {n : Nat} {enc : α → List Value} {w : World} {B : Nat} {v : Value} {xs : List α} (h : FL t n enc w B v xs) {p : Addr} (hp : p.block < B) (u : Value) : FL t n enc (w.setCell p u) B v xs :=
  own_other h (fun e => by have := (h.lt _ e).1; omega) u
theorem C3.far {w : World} {B : Nat} {u : Sl3} {c : CellD} (h : C3 w B u c) {p : Addr} (hp : p.block < B) (x : Value) : C3 (w.setCell p x) B u c := ⟨h.s.far hp x, h.l.far hp x, h.i.far hp x⟩

theorem bcell3 {W w1 : World} {n : Nat} (hb : Below W.heap.size W w1) (hn : n ≤ W.heap.size) : (∀ b o, b < n → w1.cell? ⟨b, o, none⟩ = W.cell? ⟨b, o, none⟩) ∧ (∀ b o, b < n → w1.frozen? ⟨b, o, none⟩ = W.frozen? ⟨b, o, none⟩) :=
  ⟨fun b o h => hb.cell (p := ⟨b, o, none⟩) (Nat.lt_of_lt_of_le h hn), fun b o h => hb.frozen (p := ⟨b, o, none⟩) (Nat.lt_of_lt_of_le h hn)⟩
theorem FL.out5 {α : Type} {t : TypeId} {n : Nat} {enc : α → List Value} {w : World} {B N : Nat} {v : Value} {xs : List α} (h : FL t n enc w B v xs) (hB : N + 3 ≤ B) (a b c d e : Value) :
    FL t n enc (((((w.setCell ⟨N + 1 + 1, 3, none⟩ a).setCell ⟨N + 1, 0, none⟩ b).setCell ⟨N + 1, 1, none⟩ c).setCell ⟨N + 1, 2, none⟩ d).setCell ⟨N + 1, 3, none⟩ e) N v xs :=
  (((((h.far (p := ⟨N + 1 + 1, 3, none⟩) (by dsimp only; omega) a).far (p := ⟨N + 1, 0, none⟩) (by dsimp only; omega) b).far (p := ⟨N + 1, 1, none⟩) (by dsimp only; omega) c).far (p := ⟨N + 1, 2, none⟩) (by dsimp only; omega) d).far (p := ⟨N + 1, 3, none⟩) (by dsimp only; omega) e).less (by omega)
theorem below_out5 {w u : World} {N : Nat} (h : Below N w u) (a b c d e : Value) :
    Below N w (((((u.setCell ⟨N + 1 + 1, 3, none⟩ a).setCell ⟨N + 1, 0, none⟩ b).setCell ⟨N + 1, 1, none⟩ c).setCell ⟨N + 1, 2, none⟩ d).setCell ⟨N + 1, 3, none⟩ e) :=
  ((((h.setCell (p := ⟨N + 1 + 1, 3, none⟩) (by dsimp only; omega) a).setCell (p := ⟨N + 1, 0, none⟩) (by dsimp only; omega) b).setCell (p := ⟨N + 1, 1, none⟩) (by dsimp only; omega) c).setCell (p := ⟨N + 1, 2, none⟩) (by dsimp only; omega) d).setCell (p := ⟨N + 1, 3, none⟩) (by dsimp only; omega) e
/-- A cell that was copied. -/
def IsCell (c : CellD) (w : World) (e : Ending) (w' : World) : Prop := ∃ u : Sl3, e = .returned (.agg #[.string c.name, u.s, u.l, u.i]) ∧ C3 w' w.heap.size u c ∧ Below w.heap.size w w'

set_option maxHeartbeats 1600000 in
set_option maxRecDepth 100000 in
theorem toCell_any (c : CellD) (A1 : Option Addr) (n1 c1 : Nat) (A2 : Option Addr) (n2 c2 : Nat) (A3 : Option Addr) (n3 c3 : Nat) (w : World) (s1 : ShA w A1 n1 c.shapes) (s2 : LaA w A2 n2 c.labels) (s3 : InA w A3 n3 c.insts)
    (m1 : n1 ≤ 1048576) (m2 : n2 ≤ 1048576) (m3 : n3 ≤ 1048576) :
    Calls Tryz.prog 28 #[.agg #[.string c.name, .slice A1 n1 c1, .slice A2 n2 c2, .slice A3 n3 c3]] w (IsCell c w) := by
  have b3 := (((Below.refl w.heap.size w).alloc (Nat.le_refl _) (.cells #[.string c.name, .slice A1 n1 c1, .slice A2 n2 c2, .slice A3 n3 c3] 72)).alloc (by simp) (.cells #[.string ⟨#[]⟩, .slice none 0 0, .slice none 0 0, .slice none 0 0] 39)).alloc (by simp; omega) (.cells #[.string c.name, .slice none 0 0, .slice none 0 0, .slice none 0 0] 39)
  have e3 : (((w.alloc (.cells #[.string c.name, .slice A1 n1 c1, .slice A2 n2 c2, .slice A3 n3 c3] 72)).alloc (.cells #[.string ⟨#[]⟩, .slice none 0 0, .slice none 0 0, .slice none 0 0] 39)).alloc (.cells #[.string c.name, .slice none 0 0, .slice none 0 0, .slice none 0 0] 39)).heap.size = w.heap.size + 3 := by simp
  have E3 := Lib.hid e3
  have S1 := Lib.hid (s1.on b3)
  have X2 := Lib.hid s2
  have X3 := Lib.hid s3
  have B3 := Lib.hid b3
  clear s1 s2 s3 b3 e3
  go_enter Tryz.func28, Tryz.ntmps28
  go_wp2_with (first
    | (go_at_call 49; refine (toShapeS_any _ _ _ c.shapes _ S1.out m1).mono ?_; rintro e w1 ⟨u1, rfl, hs1, hb1⟩; obtain ⟨P1, k1, rfl, -, -⟩ := hs1.form; obtain ⟨hc1, hf1⟩ := bcell hb1; have hz1 : w.heap.size + 2 < w1.heap.size := (by have := hb1.size; rw [E3.out] at this; omega); have bb1 := (B3.out.trans (hb1.mono (by rw [E3.out]; omega))).setCell (p := ⟨w.heap.size + 1 + 1, 1, none⟩) (by show w.heap.size ≤ w.heap.size + 1 + 1; omega) (.slice P1 c.shapes.length k1); have S2 := Lib.hid (X2.out.on bb1); have T1 := Lib.hid hs1; have BB1 := Lib.hid bb1; clear hs1 bb1)
    | (go_at_call 50; refine (toLabelS_any _ _ _ c.labels _ S2.out m2).mono ?_; rintro e w2 ⟨u2, rfl, hs2, hb2⟩; obtain ⟨P2, k2, rfl, -, -⟩ := hs2.form; obtain ⟨hc2, hf2⟩ := bcell3 hb2 (n := w.heap.size + 3) (by simp [World.setCell]; omega); have hz2 : w.heap.size + 2 < w2.heap.size := (by have := hb2.size; simp [World.setCell] at this; omega); have bb2 := (BB1.out.trans (hb2.mono (by simp [World.setCell]; omega))).setCell (p := ⟨w.heap.size + 1 + 1, 2, none⟩) (by show w.heap.size ≤ w.heap.size + 1 + 1; omega) (.slice P2 c.labels.length k2); have S3 := Lib.hid (X3.out.on bb2); have T2 := Lib.hid hs2; have BB2 := Lib.hid bb2; clear hs2 bb2)
    | (go_at_call 51; refine (toInstanceS_any _ _ _ c.insts _ S3.out m3).mono ?_; rintro e w3 ⟨u3, rfl, hs3, hb3⟩; obtain ⟨P3, k3, rfl, -, -⟩ := hs3.form; obtain ⟨hc3, hf3⟩ := bcell3 hb3 (n := w.heap.size + 3) (by simp [World.setCell]; omega); have hz3 : w.heap.size + 2 < w3.heap.size := (by have := hb3.size; simp [World.setCell] at this; omega); have bb3 := BB2.out.trans (hb3.mono (by simp [World.setCell]; omega)); have T3 := Lib.hid hs3; have BB3 := Lib.hid bb3; clear hs3 bb3))
  refine bodyPost_ret (v := .agg #[.string c.name, .slice P1 c.shapes.length k1, .slice P2 c.labels.length k2, .slice P3 c.insts.length k3]) (by simp [results, Tryz.results28, go_sem, hc1, hc2, hc3]) rfl ?_
  have q1 := ((T1.out.far (p := ⟨w.heap.size + 1 + 1, 1, none⟩) (by rw [E3.out]; dsimp only; omega) (.slice P1 c.shapes.length k1)).on hb2 |>.far (p := ⟨w.heap.size + 1 + 1, 2, none⟩) (by rw [E3.out]; dsimp only; omega) (.slice P2 c.labels.length k2)).on hb3
  have q2 := (T2.out.far (p := ⟨w.heap.size + 1 + 1, 2, none⟩) (by simp [World.setCell]; omega) (.slice P2 c.labels.length k2)).on hb3
  refine ⟨⟨.slice P1 c.shapes.length k1, .slice P2 c.labels.length k2, .slice P3 c.insts.length k3⟩, rfl, ⟨?_, ?_, ?_⟩, below_out5 BB3.out _ _ _ _ _⟩
  · exact q1.out5 (by rw [E3.out]; exact Nat.le_refl _) _ _ _ _ _
  · exact q2.out5 (by simp [World.setCell]; omega) _ _ _ _ _
  · exact T3.out.out5 (by simp [World.setCell]; omega) _ _ _ _ _

theorem C3.put {w : World} {B g : Nat} {u : Sl3} {c : CellD} (us : List Value) (o : Nat) (h : C3 w B u c) (hg : g < B) : C3 (putW w g o us) B u c := by
  induction us generalizing w o with
  | nil => exact h
  | cons x us ih => exact ih (o + 1) (h.far (p := ⟨g, o, none⟩) hg x)
abbrev zeroP : CellD × Sl3 := (⟨⟨#[]⟩, [], [], []⟩, ⟨.slice none 0 0, .slice none 0 0, .slice none 0 0⟩)
theorem infoCell : (Tryz.prog.info? 39).map (fun i => (i.zero, i.size, i.bytes)) = some (some (.agg #[.string ⟨#[]⟩, .slice none 0 0, .slice none 0 0, .slice none 0 0]), 4, 88) := by kernel_rfl
theorem laid_set {α : Type} (qs : List α) (z p : α) (n : Nat) (h : qs.length < n) : (qs ++ List.replicate (n - qs.length) z).set qs.length p = (qs ++ [p]) ++ List.replicate (n - (qs ++ [p]).length) z := by
  have e : n - qs.length = (n - (qs ++ [p]).length) + 1 := by simp; omega
  rw [List.set_append_right _ _ (Nat.le_refl _), Nat.sub_self, e, List.replicate_succ, List.set_cons_zero, List.append_assoc]
  rfl
theorem cellTot_le {cs : List CellD} {k : Nat} {c : CellD} (h : cs[k]? = some c) (hT : libTot cs ≤ 1048576) : c.shapes.length ≤ 1048576 ∧ c.labels.length ≤ 1048576 ∧ c.insts.length ≤ 1048576 := by
  have h1 := sumN_succ cellTot h
  have h2 := sumN_le cellTot cs (k + 1)
  unfold libTot at hT
  have h3 : cellTot c = c.name.size + c.shapes.length + (c.labels.length + sumN (fun l => l.name.size) c.labels) + c.insts.length := rfl
  omega

set_option maxHeartbeats 1600000 in
set_option maxRecDepth 100000 in
theorem toCellS_any (A : Option Addr) (n c : Nat) (cs : List CellD) (w : World) (hA : CA w A n cs) (hT : libTot cs ≤ 1048576) :
    Calls Tryz.prog 14 #[.slice A n c] w fun e w' => ∃ v ps, e = .returned v ∧ ps.map Prod.fst = cs ∧ CW w' w.heap.size v ps ∧ Below w.heap.size w w' := by
  obtain rfl := hA.len
  have hn : cs.length ≤ 1048576 := by unfold libTot at hT; omega
  obtain ⟨i0, hi0, hz0, hsz0, hby0⟩ := info_parts infoCell
  have HT := Lib.hid hT
  clear hT
  go_enter Tryz.func14, Tryz.ntmps14
  go_wp2_with (at_make; refine wpList_make_full _ rfl _ _ 27 rfl w.heap.size 39 i0 _ 4 Tryz.underlying27 hi0 hz0 hsz0 _ _ _ _ cs.length rfl rfl rfl rfl (by rw [hby0]; omega) (by simp only [maxLen]; omega) (Nat.le_refl _) ?_)
  intro w1 ho1 hg1
  have hb1 : Below w.heap.size w w1 := (Below.refl _ _).grown hg1 (Nat.le_refl _) (fun k hk => by cases hk)
  have hR1 : FL 39 4 cellV w1 w.heap.size (.slice (some ⟨w.heap.size, 0, none⟩) cs.length cs.length) ([] ++ List.replicate (cs.length - ([] : List (CellD × Sl3)).length) zeroP) := by
    show w1.ownsRow _ _ _ _ _ _
    rw [List.nil_append, List.length_nil, Nat.sub_zero, List.length_replicate, ← flat_zeros (enc := cellV) zeroP #[.string ⟨#[]⟩, .slice none 0 0, .slice none 0 0, .slice none 0 0] rfl (by decide) cellV_len]
    exact ho1
  have hs1 : w.heap.size + 1 ≤ w1.heap.size := by have := hR1.base.2; omega
  clear ho1 hg1 hi0 hz0 hsz0 hby0
  go_wp2
  go_loopw [4] (fun iv wr => ∃ (k : Nat) (qs : List (CellD × Sl3)), k ≤ cs.length ∧ iv = .int .i64 k ∧ Hid (qs.length = k) ∧ Hid (qs.map Prod.fst = cs.take k) ∧ FL 39 4 cellV wr w.heap.size (.slice (some ⟨w.heap.size, 0, none⟩) cs.length cs.length) (qs ++ List.replicate (cs.length - qs.length) zeroP) ∧
    Hid (∀ (j : Nat) (p : CellD × Sl3), qs[j]? = some p → C3 wr (w.heap.size + 1) p.2 p.1) ∧ Below w.heap.size w wr ∧ w.heap.size + 1 ≤ wr.heap.size) (fun iv _ => cs.length - (intOf iv).toNat)
  case atStart => exact ⟨0, [], Nat.zero_le _, rfl, Lib.hid rfl, Lib.hid rfl, hR1, Lib.hid (fun j p h => by simp at h), hb1, hs1⟩
  case round =>
    obtain ⟨k, qs, hk, rfl, Hlen, Hmap, hR, Heach, hb, hsz⟩ := hrel
    clear hR1 hb1 hs1
    by_cases hlt : k < cs.length
    · obtain ⟨l, hl⟩ : ∃ l, cs[k]? = some l := ⟨_, List.getElem?_eq_getElem hlt⟩
      obtain ⟨b, off, A1, n1, c1, A2, n2, c2, A3, n3, c3, rfl, hbl, f0, f1, f2, f3, -, -, -, s1, s2, s3⟩ := (hA.on hb).elem k l hl
      have htl := cellTot_le hl HT.out
      have m1 : n1 ≤ 1048576 := by rw [← s1.len]; exact htl.1
      have m2 : n2 ≤ 1048576 := by rw [← s2.len]; exact htl.2.1
      have m3 : n3 ≤ 1048576 := by rw [← s3.len]; exact htl.2.2
      have M1 := Lib.hid m1
      have M2 := Lib.hid m2
      have M3 := Lib.hid m3
      have S1 := Lib.hid s1
      have S2 := Lib.hid s2
      have S3 := Lib.hid s3
      have Hl := Lib.hid hl
      have hkl : k < (qs ++ List.replicate (cs.length - qs.length) zeroP).length := by rw [List.length_append, List.length_replicate, Hlen.out]; omega
      have HK := Lib.hid hkl
      clear htl m1 m2 m3 s1 s2 s3 hl hkl
      go_wp2_with (go_at_call 28; refine (toCell_any l _ _ _ _ _ _ _ _ _ _ S1.out S2.out S3.out M1.out M2.out M3.out).mono ?_; rintro e w2 ⟨u, rfl, hC, hb2⟩; obtain ⟨us, ul, ui⟩ := u; obtain ⟨Q1, j1, rfl, -, -⟩ := hC.s.form; obtain ⟨Q2, j2, rfl, -, -⟩ := hC.l.form; obtain ⟨Q3, j3, rfl, -, -⟩ := hC.i.form; obtain ⟨g9, y, hg9, -, -, -, hcy⟩ := FL.elem cellV_len (hR.on hb2) HK.out; cases hg9; obtain ⟨y0, y1⟩ := y; have z0 : w2.cell? ⟨w.heap.size, k * 4, none⟩ = some (.string y0.name) := hcy 0 _ rfl; have z1 : w2.cell? ⟨w.heap.size, k * 4 + 1, none⟩ = some y1.s := hcy 1 _ rfl; have z2 : w2.cell? ⟨w.heap.size, k * 4 + 2, none⟩ = some y1.l := hcy 2 _ rfl; have z3 : w2.cell? ⟨w.heap.size, k * 4 + 3, none⟩ = some y1.i := hcy 3 _ rfl; have t0 := (hR.on hb2).frozen (k * 4); have t1 := (hR.on hb2).frozen (k * 4 + 1); have t2 := (hR.on hb2).frozen (k * 4 + 2); have t3 := (hR.on hb2).frozen (k * 4 + 3); have HC := Lib.hid hC; clear hcy hC)
      have hq := FL.put cellV_len (hR.on hb2) HK.out (l, (⟨.slice Q1 l.shapes.length j1, .slice Q2 l.labels.length j2, .slice Q3 l.insts.length j3⟩ : Sl3))
      have e2 : (qs ++ List.replicate (cs.length - qs.length) zeroP).set k (l, (⟨.slice Q1 l.shapes.length j1, .slice Q2 l.labels.length j2, .slice Q3 l.insts.length j3⟩ : Sl3)) = (qs ++ [(l, ⟨.slice Q1 l.shapes.length j1, .slice Q2 l.labels.length j2, .slice Q3 l.insts.length j3⟩)]) ++ List.replicate (cs.length - (qs ++ [(l, (⟨.slice Q1 l.shapes.length j1, .slice Q2 l.labels.length j2, .slice Q3 l.insts.length j3⟩ : Sl3))]).length) zeroP := by
        have := laid_set qs zeroP (l, (⟨.slice Q1 l.shapes.length j1, .slice Q2 l.labels.length j2, .slice Q3 l.insts.length j3⟩ : Sl3)) cs.length (by rw [Hlen.out]; exact hlt)
        rw [← this, Hlen.out]
      rw [e2] at hq
      have hbb := hb.trans (hb2.mono hb.size)
      have hss := hb2.size
      refine ⟨⟨k + 1, _, by omega, by go_num, Lib.hid (by rw [List.length_append, Hlen.out]; rfl), Lib.hid (by rw [List.map_append, Hmap.out, List.take_add_one, Hl.out]; rfl), hq, Lib.hid ?_, below_put (cellV (l, ⟨.slice Q1 l.shapes.length j1, .slice Q2 l.labels.length j2, .slice Q3 l.insts.length j3⟩)) (k * 4) hbb (Nat.le_refl _), ?_⟩, by simp [intOf]; omega⟩
      · intro j p hp
        show C3 (putW w2 w.heap.size (k * 4) (cellV (l, ⟨.slice Q1 l.shapes.length j1, .slice Q2 l.labels.length j2, .slice Q3 l.insts.length j3⟩))) _ _ _
        refine C3.put _ _ ?_ (Nat.lt_succ_self _)
        by_cases hj : j < qs.length
        · rw [List.getElem?_append_left hj] at hp
          exact (Heach.out j p hp).on hb2
        · rw [List.getElem?_append_right (by omega)] at hp
          have e0 : j - qs.length = 0 := by
            have := (List.getElem?_eq_some_iff.1 hp).1
            simp at this
            omega
          rw [e0] at hp
          simp only [List.getElem?_cons_zero, Option.some.injEq] at hp
          subst hp
          exact HC.out.less hsz
      · simp [World.setCell]
        omega
    · go_wp2
      go_ret
      obtain rfl : k = cs.length := by omega
      rw [List.take_length] at Hmap
      rw [Hlen.out, Nat.sub_self, List.replicate_zero, List.append_nil] at hR
      have hql := Hlen.out
      refine ⟨_, qs, rfl, Hmap.out, ⟨?_, fun j p hp => (Heach.out j p hp).less (Nat.le_succ _)⟩, hb⟩
      exact hR

/-- A library by value. -/
def LibV (w : World) (B : Nat) (v : Value) (cs : List CellD) : Prop := ∃ ps : List (CellD × Sl3), ps.map Prod.fst = cs ∧ CW w B v ps
theorem LibV.on {w w' : World} {B : Nat} {v : Value} {cs : List CellD} (h : LibV w B v cs) (hb : Below w.heap.size w w') : LibV w' B v cs := let ⟨ps, h1, h2⟩ := h; ⟨ps, h1, h2.on hb⟩
theorem LibV.less {w : World} {B B' : Nat} {v : Value} {cs : List CellD} (h : LibV w B v cs) (hB : B' ≤ B) : LibV w B' v cs := let ⟨ps, h1, h2⟩ := h; ⟨ps, h1, h2.less hB⟩
theorem LibV.form {w : World} {B : Nat} {v : Value} {cs : List CellD} (h : LibV w B v cs) : ∃ A cap, v = .slice A cs.length cap ∧ cs.length ≤ cap ∧ cap ≤ maxLen := by
  obtain ⟨ps, rfl, h2⟩ := h
  rw [List.length_map]
  exact h2.form
/-- The cell k of a library, in memory. -/
theorem LibV.elem {w : World} {B : Nat} {A : Option Addr} {m n k : Nat} {cs : List CellD} (h : LibV w B (.slice A m n) cs) (hk : k < cs.length) : ∃ (g : Nat) (c : CellD) (u : Sl3), A = some ⟨g, 0, none⟩ ∧ cs[k]? = some c ∧ g < w.heap.size ∧ w.cell? ⟨g, k * 4, none⟩ = some (.string c.name) ∧
    w.cell? ⟨g, k * 4 + 1, none⟩ = some u.s ∧ w.cell? ⟨g, k * 4 + 2, none⟩ = some u.l ∧ w.cell? ⟨g, k * 4 + 3, none⟩ = some u.i ∧ C3 w B u c := by
  obtain ⟨ps, rfl, h2⟩ := h
  obtain ⟨g, p, hA, hp, hg, c0, c1, c2, c3, h3⟩ := h2.elem (k := k) (by simpa using hk)
  exact ⟨g, p.1, p.2, hA, by rw [List.getElem?_map, hp]; rfl, hg, c0, c1, c2, c3, h3⟩
theorem CW.far {w : World} {B : Nat} {v : Value} {ps : List (CellD × Sl3)} (h : CW w B v ps) {p : Addr} (hp : p.block < B) (x : Value) : CW (w.setCell p x) B v ps := ⟨h.own.far hp x, fun k q hq => (h.each k q hq).far hp x⟩
theorem LibV.far {w : World} {B : Nat} {v : Value} {cs : List CellD} (h : LibV w B v cs) {p : Addr} (hp : p.block < B) (x : Value) : LibV (w.setCell p x) B v cs := let ⟨ps, h1, h2⟩ := h; ⟨ps, h1, h2.far hp x⟩

set_option maxHeartbeats 800000 in
set_option maxRecDepth 100000 in
theorem toLib_any (A : Option Addr) (n c : Nat) (cs : List CellD) (w : World) (hA : CA w A n cs) (hT : libTot cs ≤ 1048576) :
    Calls Tryz.prog 6 #[.agg #[.slice A n c]] w fun e w' => ∃ v, e = .returned (.agg #[v]) ∧ LibV w' w.heap.size v cs ∧ Below w.heap.size w w' := by
  have b3 := (((Below.refl w.heap.size w).alloc (Nat.le_refl _) (.cells #[.slice A n c] 24)).alloc (by simp) (.cells #[.slice none 0 0] 29)).alloc (by simp; omega) (.cells #[.slice none 0 0] 29)
  have C0 := Lib.hid (hA.on b3)
  have B3 := Lib.hid b3
  clear hA b3
  go_enter Tryz.func6, Tryz.ntmps6
  go_wp2_with (go_at_call 14; refine (toCellS_any _ _ _ cs _ C0.out hT).mono ?_; rintro e w1 ⟨v, ps, rfl, hps, hC, hb1⟩; obtain ⟨P1, k1, rfl, -, -⟩ := hC.form; obtain ⟨hc1, hf1⟩ := bcell hb1; have hz1 : w.heap.size + 3 ≤ w1.heap.size := (by have := hb1.size; simp at this; omega); have HC := Lib.hid hC; have HP := Lib.hid hps; clear hC hps)
  refine bodyPost_ret (v := .agg #[.slice P1 ps.length k1]) (by simp [results, Tryz.results6, go_sem, hc1]) rfl ⟨_, rfl, ?_, ?_⟩
  · refine ⟨ps, HP.out, ?_⟩
    exact ((HC.out.far (p := ⟨w.heap.size + 1 + 1, 0, none⟩) (by simp) _).far (p := ⟨w.heap.size + 1, 0, none⟩) (by first | (simp; done) | (simp; omega)) _).less (by first | (simp; done) | (simp; omega))
  · exact ((B3.out.trans (hb1.mono (by simp; omega))).setCell (p := ⟨w.heap.size + 1 + 1, 0, none⟩) (by dsimp only; omega) _).setCell (p := ⟨w.heap.size + 1, 0, none⟩) (by dsimp only; omega) _

set_option maxHeartbeats 800000 in
set_option maxRecDepth 100000 in
theorem eqCell_same (c : CellD) (u v : Sl3) (w : World) (hu : C3 w 0 u c) (hv : C3 w 0 v c) :
    Calls Tryz.prog 36 #[.agg #[.string c.name, u.s, u.l, u.i], .agg #[.string c.name, v.s, v.l, v.i]] w fun e w' => e = .returned (.bool true) ∧ Below w.heap.size w w' := by
  obtain ⟨us, ul, ui⟩ := u
  obtain ⟨vs, vl, vi⟩ := v
  obtain ⟨P1, k1, rfl, -, -⟩ := hu.s.form
  obtain ⟨P2, k2, rfl, -, -⟩ := hu.l.form
  obtain ⟨P3, k3, rfl, -, -⟩ := hu.i.form
  obtain ⟨Q1, j1, rfl, -, -⟩ := hv.s.form
  obtain ⟨Q2, j2, rfl, -, -⟩ := hv.l.form
  obtain ⟨Q3, j3, rfl, -, -⟩ := hv.i.form
  dsimp only
  have b2 := ((Below.refl w.heap.size w).alloc (Nat.le_refl _) (.cells #[.string c.name, .slice P1 c.shapes.length k1, .slice P2 c.labels.length k2, .slice P3 c.insts.length k3] 39)).alloc (by simp) (.cells #[.string c.name, .slice Q1 c.shapes.length j1, .slice Q2 c.labels.length j2, .slice Q3 c.insts.length j3] 39)
  have U := Lib.hid (hu.on b2)
  have V := Lib.hid (hv.on b2)
  clear hu hv
  go_enter Tryz.func36, Tryz.ntmps36
  go_wp2_with (first
    | (go_at_call 68; refine (eqShapeS_same _ _ c.shapes _ U.out.s V.out.s).mono ?_; rintro e w1 ⟨rfl, hb1⟩; obtain ⟨hc1, hf1⟩ := bcell3 hb1 (n := w.heap.size + 2) (by simp); have hz1 : w.heap.size + 2 ≤ w1.heap.size := (by have := hb1.size; simp at this; omega); have U1 := Lib.hid (U.out.on hb1); have V1 := Lib.hid (V.out.on hb1))
    | (go_at_call 69; refine (eqLabelS_same _ _ c.labels _ U1.out.l V1.out.l).mono ?_; rintro e w2 ⟨rfl, hb2⟩; obtain ⟨hc2, hf2⟩ := bcell3 hb2 (n := w.heap.size + 2) hz1; have hz2 : w.heap.size + 2 ≤ w2.heap.size := Nat.le_trans hz1 hb2.size; have U2 := Lib.hid (U1.out.on hb2); have V2 := Lib.hid (V1.out.on hb2))
    | (go_at_call 70; refine (eqInstanceS_same _ _ c.insts _ U2.out.i V2.out.i).mono ?_; rintro e w3 ⟨rfl, hb3⟩))
  go_ret
  exact ⟨rfl, ((b2.trans (hb1.mono (by simp; omega))).trans (hb2.mono (by omega))).trans (hb3.mono (by omega))⟩

set_option maxHeartbeats 1600000 in
set_option maxRecDepth 100000 in
theorem eqCellS_same (v u : Value) (cs : List CellD) (w : World) (hv : LibV w 0 v cs) (hu : LibV w 0 u cs) :
    Calls Tryz.prog 22 #[v, u] w fun e w' => e = .returned (.bool true) ∧ Below w.heap.size w w' := by
  obtain ⟨A, c1, rfl, hc1, hm1⟩ := hv.form
  obtain ⟨A2, c2, rfl, hc2, hm2⟩ := hu.form
  have hlen : cs.length ≤ 9223372036854775807 := by unfold maxLen at hm1; omega
  go_enter Tryz.func22, Tryz.ntmps22
  go_wp2
  go_loopw [5] (fun i wr => ∃ k : Nat, k ≤ cs.length ∧ i = .int .i64 k ∧ Below w.heap.size w wr) (fun i _ => cs.length - (intOf i).toNat)
  case atStart => exact ⟨0, Nat.zero_le _, rfl, Below.refl _ _⟩
  case round =>
    obtain ⟨k, hk, rfl, hb⟩ := hrel
    by_cases hlt : k < cs.length
    · obtain ⟨g, x, us, rfl, hx, -, f0, f1, f2, f3, hC⟩ := (hv.on hb).elem hlt
      obtain ⟨g', x', vs, rfl, hx', -, e0, e1, e2, e3, hC'⟩ := (hu.on hb).elem hlt
      obtain rfl : x' = x := Option.some.inj (hx'.symm.trans hx)
      obtain ⟨P1, k1, h1, -, -⟩ := hC.s.form
      obtain ⟨P2, k2, h2, -, -⟩ := hC.l.form
      obtain ⟨P3, k3, h3, -, -⟩ := hC.i.form
      obtain ⟨Q1, j1, h4, -, -⟩ := hC'.s.form
      obtain ⟨Q2, j2, h5, -, -⟩ := hC'.l.form
      obtain ⟨Q3, j3, h6, -, -⟩ := hC'.i.form
      obtain ⟨u1, u2, u3⟩ := us
      obtain ⟨v1, v2, v3⟩ := vs
      dsimp only at h1 h2 h3 h4 h5 h6 f1 f2 f3 e1 e2 e3
      subst h1 h2 h3 h4 h5 h6
      have HC := Lib.hid (hC.on (Below.refl wr.heap.size wr).drew)
      have HC' := Lib.hid (hC'.on (Below.refl wr.heap.size wr).drew)
      clear hx hx' hC hC' hv hu
      go_wp2
      go_still_tail 8, (by kernel_rfl)
      change wpList _ _ _ _ _ wr.drew
      have hb2 : Below w.heap.size w wr.drew := hb.drew
      generalize wr.drew = w2 at *
      go_wp2_with (go_at_call 36; refine (eqCell_same x' ⟨_, _, _⟩ ⟨_, _, _⟩ _ HC.out HC'.out).mono ?_; rintro e w1 ⟨rfl, hb1⟩)
      exact ⟨⟨k + 1, by omega, by go_num, hb2.trans (hb1.mono hb2.size)⟩, by simp [intOf]; omega⟩
    · go_wp2
      go_ret
      exact ⟨rfl, hb⟩

theorem eqLib_same (v u : Value) (cs : List CellD) (w : World) (hv : LibV w 0 v cs) (hu : LibV w 0 u cs) :
    Calls Tryz.prog 8 #[.agg #[v], .agg #[u]] w fun e w' => e = .returned (.bool true) ∧ Below w.heap.size w w' := by
  obtain ⟨A, c1, rfl, -, -⟩ := hv.form
  obtain ⟨A2, c2, rfl, -, -⟩ := hu.form
  have b2 := ((Below.refl w.heap.size w).alloc (Nat.le_refl _) (.cells #[.slice A cs.length c1] 29)).alloc (by simp) (.cells #[.slice A2 cs.length c2] 29)
  have V := Lib.hid (hv.on b2)
  have U := Lib.hid (hu.on b2)
  clear hu hv
  go_enter Tryz.func8, Tryz.ntmps8
  go_wp2_with (go_at_call 22; refine (eqCellS_same _ _ cs _ V.out U.out).mono ?_; rintro e w1 ⟨rfl, hb1⟩)
  go_ret
  exact ⟨rfl, b2.trans (hb1.mono (by simp; omega))⟩

end Go.Proofs.YtfgpkhifbflnbaaGreatDoor
