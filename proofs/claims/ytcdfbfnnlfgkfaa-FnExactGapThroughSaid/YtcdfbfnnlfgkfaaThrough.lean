/- Contracts: the program's runThrough on a set. Condition: the cell lies on the chip. -/
import Derived.Test.YtcdfbfnnlfgkfaaOk
namespace Go.Proofs.Ytcdfbfnnlfgkfaa
open Go.RowKit

/-- The number in a cell. -/
def cellI (w : World) (g i : Nat) : Int := match w.cell? ⟨g, i, none⟩ with | some v => intOf v | none => 0
theorem cellI_of {w : World} {g i : Nat} {n : Int} (h : w.cell? ⟨g, i, none⟩ = some (.int .i64 n)) : cellI w g i = n := by unfold cellI; rw [h]; rfl
theorem set2 {w : World} {b : Nat} {t : TypeId} {a0 a1 : Value} (h : Bk w b t #[a0, a1]) (x0 x1 : Value) : Bk ((w.setCell ⟨b, 0, none⟩ x0).setCell ⟨b, 1, none⟩ x1) b t #[x0, x1] := (h.store 0 x0).store 1 x1
theorem other2 {w : World} {g b : Nat} {t : TypeId} {cs : Array Value} (h : Bk w g t cs) (hne : g ≠ b) (x0 x1 : Value) : Bk ((w.setCell ⟨b, 0, none⟩ x0).setCell ⟨b, 1, none⟩ x1) g t cs := (h.other (p := ⟨b, 0, none⟩) hne x0).other (p := ⟨b, 1, none⟩) hne x1
theorem below2 {B b : Nat} {a w : World} (h : Below B a w) (hb : B ≤ b) (x0 x1 : Value) : Below B a ((w.setCell ⟨b, 0, none⟩ x0).setCell ⟨b, 1, none⟩ x1) := (h.setCell hb x0).setCell hb x1
theorem below4 {B b : Nat} {a w : World} (h : Below B a w) (hb : B ≤ b) (x0 x1 x2 x3 : Value) : Below B a ((((w.setCell ⟨b, 0, none⟩ x0).setCell ⟨b, 1, none⟩ x1).setCell ⟨b, 2, none⟩ x2).setCell ⟨b, 3, none⟩ x3) := (((h.setCell hb x0).setCell hb x1).setCell hb x2).setCell hb x3
theorem set4of {w : World} {b : Nat} {t : TypeId} {a0 a1 a2 a3 : Value} (h : Bk w b t #[a0, a1, a2, a3]) (x0 x1 x2 x3 : Value) :
    (w.setCell ⟨b, 0, none⟩ x0).cell? ⟨b, 0, none⟩ = some x0 ∧ ((w.setCell ⟨b, 0, none⟩ x0).setCell ⟨b, 1, none⟩ x1).cell? ⟨b, 1, none⟩ = some x1 ∧
    (((w.setCell ⟨b, 0, none⟩ x0).setCell ⟨b, 1, none⟩ x1).setCell ⟨b, 2, none⟩ x2).cell? ⟨b, 2, none⟩ = some x2 ∧
    ((((w.setCell ⟨b, 0, none⟩ x0).setCell ⟨b, 1, none⟩ x1).setCell ⟨b, 2, none⟩ x2).setCell ⟨b, 3, none⟩ x3).cell? ⟨b, 3, none⟩ = some x3 :=
  ⟨(h.store 0 x0).cell 0, ((h.store 0 x0).store 1 x1).cell 1, (((h.store 0 x0).store 1 x1).store 2 x2).cell 2, ((((h.store 0 x0).store 1 x1).store 2 x2).store 3 x3).cell 3⟩

set_option maxHeartbeats 1600000 in
set_option maxRecDepth 100000 in
theorem through_v (g : Nat) (G : Gr) (x y : Int) (w : World) (hG : GB w g 84 G) (hx : -40 ≤ x ∧ x ≤ 39) (hy : -40 ≤ y ∧ y ≤ 39) :
    Calls Try.prog 59 #[.pointer (some ⟨g, 0, none⟩), .agg #[.int .i64 x, .int .i64 y], .bool true] w fun e w' => e = .returned (.agg #[.int .i64 x, .int .i64 (lowOf (fun t => hasG G x t) y), .int .i64 (x + 1), .int .i64 (highOf (fun t => hasG G x t) (y + 1))]) ∧ Below w.heap.size w w' := by
  have z0 := Bk.new w 40 #[.int .i64 x, .int .i64 y]
  have r0 := Bk.new (w.alloc (.cells #[.int .i64 x, .int .i64 y] 40)) 33 #[.int .i64 0, .int .i64 0, .int .i64 0, .int .i64 0]
  have b0 := ((Below.refl w.heap.size w).alloc (Nat.le_refl _) (.cells #[.int .i64 x, .int .i64 y] 40)).alloc (by simp) (.cells #[.int .i64 0, .int .i64 0, .int .i64 0, .int .i64 0] 33)
  have c0 := Bk.new ((w.alloc (.cells #[.int .i64 x, .int .i64 y] 40)).alloc (.cells #[.int .i64 0, .int .i64 0, .int .i64 0, .int .i64 0] 33)) 40 #[.int .i64 x, .int .i64 y]
  have c1 := c0.alloc (.cells #[.int .i64 x, .int .i64 y] 40)
  have d1 := Bk.new (((w.alloc (.cells #[.int .i64 x, .int .i64 y] 40)).alloc (.cells #[.int .i64 0, .int .i64 0, .int .i64 0, .int .i64 0] 33)).alloc (.cells #[.int .i64 x, .int .i64 y] 40)) 40 #[.int .i64 x, .int .i64 y]
  have r1 := (r0.alloc (.cells #[.int .i64 x, .int .i64 y] 40)).alloc (.cells #[.int .i64 x, .int .i64 y] 40)
  have b1 := (b0.alloc (by simp; omega) (.cells #[.int .i64 x, .int .i64 y] 40)).alloc (by simp; omega) (.cells #[.int .i64 x, .int .i64 y] 40)
  have hc := box2 (z0.alloc (.cells #[.int .i64 0, .int .i64 0, .int .i64 0, .int .i64 0] 33))
  clear z0 r0 b0 c0
  have e1 : (w.alloc (.cells #[.int .i64 x, .int .i64 y] 40)).heap.size = w.heap.size + 1 := by simp
  have e2 : ((w.alloc (.cells #[.int .i64 x, .int .i64 y] 40)).alloc (.cells #[.int .i64 0, .int .i64 0, .int .i64 0, .int .i64 0] 33)).heap.size = w.heap.size + 1 + 1 := by simp
  have e3 : (((w.alloc (.cells #[.int .i64 x, .int .i64 y] 40)).alloc (.cells #[.int .i64 0, .int .i64 0, .int .i64 0, .int .i64 0] 33)).alloc (.cells #[.int .i64 x, .int .i64 y] 40)).heap.size = w.heap.size + 1 + 1 + 1 := by simp
  rw [e1] at r1
  rw [e2] at c1
  rw [e3] at d1
  clear e1 e2 e3
  go_enter Try.func59, Try.ntmps59
  go_wp2
  go_region
  clear hc
  all_goals
    have c2 := c1.drew
    have d2 := d1.drew
    have r2 := r1.drew
    have b2 := b1.drew
    clear c1 d1 r1 b1
    revert c2 d2 r2 b2
    generalize World.drew _ = w5
    intro c2 d2 r2 b2
    have hG5 := hG.below b2 hG.lt
  rotate_left
  have hl2 : w.heap.size ≤ w.heap.size + 1 + 1 + 1 ∧ w.heap.size ≤ w.heap.size + 1 + 1 ∧ w.heap.size + 1 ≠ w.heap.size + 1 + 1 + 1 ∧ w.heap.size + 1 ≠ w.heap.size + 1 + 1 ∧ w.heap.size + 1 + 1 + 1 ≠ w.heap.size + 1 + 1 := by omega
  revert c2 d2 hl2
  generalize w.heap.size + 1 + 1 + 1 = bl
  generalize w.heap.size + 1 + 1 = bh
  intro d2 c2 hl2
  rotate_left
  have hl2 : w.heap.size ≤ w.heap.size + 1 + 1 ∧ w.heap.size ≤ w.heap.size + 1 + 1 + 1 ∧ w.heap.size + 1 ≠ w.heap.size + 1 + 1 ∧ w.heap.size + 1 ≠ w.heap.size + 1 + 1 + 1 ∧ w.heap.size + 1 + 1 ≠ w.heap.size + 1 + 1 + 1 := by omega
  revert c2 d2 hl2
  generalize w.heap.size + 1 + 1 + 1 = bh
  generalize w.heap.size + 1 + 1 = bl
  intro c2 d2 hl2
  all_goals
    obtain ⟨hl3, hh3, hrl, hrh, hlh⟩ := hl2
    go_wp2
    go_loopw [14] (fun _ wr => ∃ l : Int, -40 ≤ l ∧ l ≤ y ∧ Hid (lowOf (fun t => hasG G x t) y = lowOf (fun t => hasG G x t) l) ∧ Bk wr bl 40 #[.int .i64 x, .int .i64 l] ∧ Bk wr bh 40 #[.int .i64 x, .int .i64 y] ∧ Bk wr (w.heap.size + 1) 33 #[.int .i64 0, .int .i64 0, .int .i64 0, .int .i64 0] ∧ GB wr g 84 G ∧ Below w.heap.size w wr) (fun _ wr => (cellI wr bl 1 + 41).toNat)
    case atStart => exact ⟨y, by omega, by omega, Lib.hid rfl, c2, d2, r2, hG5, b2⟩
    case round =>
      obtain ⟨l, hl0, hl1, hlow, cl, ch, cr, hGr, hb⟩ := hrel
      clear c2 d2 r2 b2 hG5
      obtain ⟨f0, f1⟩ := box2 cl
      have q0 := cl.frozen 0
      have q1 := cl.frozen 1
      have em : cellI wr bl 1 = l := cellI_of f1
      by_cases hp : hasG G x (l - 1) = true
      · have hin := hasG_in hp
        have Hl := Lib.hid (hlow.out.trans (lowOf_step (p := (fun t => hasG G x t)) hp (by omega)))
        go_wp2_with (go_at_call 64; refine (has_any g G _ _ _ hGr).mono ?_; rintro e w6 ⟨rfl, hb6⟩; have cl6 := cl.on hb6; obtain ⟨f0', f1'⟩ := box2 cl6; have q0' := cl6.frozen 0; have q1' := cl6.frozen 1)
        have cl7 := set2 cl6 (.int .i64 x) (.int .i64 (l - 1))
        refine ⟨⟨l - 1, by omega, by omega, Hl, cl7, other2 (ch.on hb6) (by omega) _ _, other2 (cr.on hb6) (by omega) _ _, ?_, below2 (hb.trans (hb6.mono hb.size)) hl3 _ _⟩, ?_⟩
        · exact hG.below (below2 (hb.trans (hb6.mono hb.size)) hl3 _ _) hG.lt
        · have e7 := cellI_of ((box2 cl7).2)
          rw [em, e7]
          omega
      · have hp' : hasG G x (l - 1) = false := by simpa using hp
        clear hp
        have Hl := Lib.hid (hlow.out.trans (lowOf_stop (p := (fun t => hasG G x t)) hp'))
        go_wp2_with (go_at_call 64; refine (has_any g G _ _ _ hGr).mono ?_; rintro e w6 ⟨rfl, hb6⟩)
        have cl6 := cl.on hb6
        have ch6 := ch.on hb6
        have cr6 := cr.on hb6
        have hG6 := hGr.on hb6
        have t6 := hb.trans (hb6.mono hb.size)
        clear f0 f1 q0 q1 em hlow hp' cl ch cr hGr hb hb6
        go_loopw [33] (fun _ wr => ∃ h : Int, y ≤ h ∧ h ≤ 39 ∧ Hid (highOf (fun t => hasG G x t) (y + 1) = highOf (fun t => hasG G x t) (h + 1)) ∧ Bk wr bl 40 #[.int .i64 x, .int .i64 l] ∧ Bk wr bh 40 #[.int .i64 x, .int .i64 h] ∧ Bk wr (w.heap.size + 1) 33 #[.int .i64 0, .int .i64 0, .int .i64 0, .int .i64 0] ∧ GB wr g 84 G ∧ Below w.heap.size w wr) (fun _ wr => (41 - cellI wr bh 1).toNat)
        case atStart => exact ⟨y, by omega, by omega, Lib.hid rfl, cl6, ch6, cr6, hG6, t6⟩
        case round =>
          obtain ⟨h, hh0, hh1, hhigh, cl, ch, cr, hGr, hb⟩ := hrel
          clear cl6 ch6 cr6 hG6 t6
          obtain ⟨f0, f1⟩ := box2 ch
          have q0 := ch.frozen 0
          have q1 := ch.frozen 1
          have em : cellI wr bh 1 = h := cellI_of f1
          by_cases hp : hasG G x (h + 1) = true
          · have hin := hasG_in hp
            have Hh := Lib.hid (hhigh.out.trans (highOf_step (p := (fun t => hasG G x t)) hp (by omega)))
            go_wp2_with (go_at_call 64; refine (has_any g G _ _ _ hGr).mono ?_; rintro e w6 ⟨rfl, hb6⟩; have ch6 := ch.on hb6; obtain ⟨f0', f1'⟩ := box2 ch6; have q0' := ch6.frozen 0; have q1' := ch6.frozen 1)
            have ch7 := set2 ch6 (.int .i64 x) (.int .i64 (h + 1))
            refine ⟨⟨h + 1, by omega, by omega, Hh, other2 (cl.on hb6) (by omega) _ _, ch7, other2 (cr.on hb6) (by omega) _ _, ?_, below2 (hb.trans (hb6.mono hb.size)) hh3 _ _⟩, ?_⟩
            · exact hG.below (below2 (hb.trans (hb6.mono hb.size)) hh3 _ _) hG.lt
            · have e7 := cellI_of ((box2 ch7).2)
              rw [em, e7]
              omega
          · have hp' : hasG G x (h + 1) = false := by simpa using hp
            clear hp
            have Hh := Lib.hid (hhigh.out.trans (highOf_stop (p := (fun t => hasG G x t)) hp'))
            obtain ⟨k0, k1⟩ := box2 cl
            go_wp2_with (go_at_call 64; refine (has_any g G _ _ _ hGr).mono ?_; rintro e w6 ⟨rfl, hb6⟩; obtain ⟨k0', k1'⟩ := box2 (cl.on hb6); obtain ⟨f0', f1'⟩ := box2 (ch.on hb6); have cr6 := cr.on hb6; obtain ⟨e0', e1', e2', e3'⟩ := box4 cr6; have q0' := cr6.frozen 0; have q1' := cr6.frozen 1; have q2' := cr6.frozen 2; have q3' := cr6.frozen 3)
            obtain ⟨s0, s1, s2, s3⟩ := set4of cr6 (.int .i64 x) (.int .i64 l) (.int .i64 (x + 1)) (.int .i64 (h + 1))
            refine bodyPost_ret (v := .agg #[.int .i64 x, .int .i64 l, .int .i64 (x + 1), .int .i64 (h + 1)]) (by simp [results, Try.results59, go_sem, s0, s1, s2, s3]) rfl ⟨?_, below4 (hb.trans (hb6.mono hb.size)) (Nat.le_succ _) _ _ _ _⟩
            rw [Hl.out, Hh.out]

set_option maxHeartbeats 1600000 in
set_option maxRecDepth 100000 in
theorem through_h (g : Nat) (G : Gr) (x y : Int) (w : World) (hG : GB w g 84 G) (hx : -40 ≤ x ∧ x ≤ 39) (hy : -40 ≤ y ∧ y ≤ 39) :
    Calls Try.prog 59 #[.pointer (some ⟨g, 0, none⟩), .agg #[.int .i64 x, .int .i64 y], .bool false] w fun e w' => e = .returned (.agg #[.int .i64 (lowOf (fun t => hasG G t y) x), .int .i64 y, .int .i64 (highOf (fun t => hasG G t y) (x + 1)), .int .i64 (y + 1)]) ∧ Below w.heap.size w w' := by
  have z0 := Bk.new w 40 #[.int .i64 x, .int .i64 y]
  have r0 := Bk.new (w.alloc (.cells #[.int .i64 x, .int .i64 y] 40)) 33 #[.int .i64 0, .int .i64 0, .int .i64 0, .int .i64 0]
  have b0 := ((Below.refl w.heap.size w).alloc (Nat.le_refl _) (.cells #[.int .i64 x, .int .i64 y] 40)).alloc (by simp) (.cells #[.int .i64 0, .int .i64 0, .int .i64 0, .int .i64 0] 33)
  have c0 := Bk.new ((w.alloc (.cells #[.int .i64 x, .int .i64 y] 40)).alloc (.cells #[.int .i64 0, .int .i64 0, .int .i64 0, .int .i64 0] 33)) 40 #[.int .i64 x, .int .i64 y]
  have c1 := c0.alloc (.cells #[.int .i64 x, .int .i64 y] 40)
  have d1 := Bk.new (((w.alloc (.cells #[.int .i64 x, .int .i64 y] 40)).alloc (.cells #[.int .i64 0, .int .i64 0, .int .i64 0, .int .i64 0] 33)).alloc (.cells #[.int .i64 x, .int .i64 y] 40)) 40 #[.int .i64 x, .int .i64 y]
  have r1 := (r0.alloc (.cells #[.int .i64 x, .int .i64 y] 40)).alloc (.cells #[.int .i64 x, .int .i64 y] 40)
  have b1 := (b0.alloc (by simp; omega) (.cells #[.int .i64 x, .int .i64 y] 40)).alloc (by simp; omega) (.cells #[.int .i64 x, .int .i64 y] 40)
  have hc := box2 (z0.alloc (.cells #[.int .i64 0, .int .i64 0, .int .i64 0, .int .i64 0] 33))
  clear z0 r0 b0 c0
  have e1 : (w.alloc (.cells #[.int .i64 x, .int .i64 y] 40)).heap.size = w.heap.size + 1 := by simp
  have e2 : ((w.alloc (.cells #[.int .i64 x, .int .i64 y] 40)).alloc (.cells #[.int .i64 0, .int .i64 0, .int .i64 0, .int .i64 0] 33)).heap.size = w.heap.size + 1 + 1 := by simp
  have e3 : (((w.alloc (.cells #[.int .i64 x, .int .i64 y] 40)).alloc (.cells #[.int .i64 0, .int .i64 0, .int .i64 0, .int .i64 0] 33)).alloc (.cells #[.int .i64 x, .int .i64 y] 40)).heap.size = w.heap.size + 1 + 1 + 1 := by simp
  rw [e1] at r1
  rw [e2] at c1
  rw [e3] at d1
  clear e1 e2 e3
  go_enter Try.func59, Try.ntmps59
  go_wp2
  go_region
  clear hc
  all_goals
    have c2 := c1.drew
    have d2 := d1.drew
    have r2 := r1.drew
    have b2 := b1.drew
    clear c1 d1 r1 b1
    revert c2 d2 r2 b2
    generalize World.drew _ = w5
    intro c2 d2 r2 b2
    have hG5 := hG.below b2 hG.lt
  rotate_left
  have hl2 : w.heap.size ≤ w.heap.size + 1 + 1 + 1 ∧ w.heap.size ≤ w.heap.size + 1 + 1 ∧ w.heap.size + 1 ≠ w.heap.size + 1 + 1 + 1 ∧ w.heap.size + 1 ≠ w.heap.size + 1 + 1 ∧ w.heap.size + 1 + 1 + 1 ≠ w.heap.size + 1 + 1 := by omega
  revert c2 d2 hl2
  generalize w.heap.size + 1 + 1 + 1 = bl
  generalize w.heap.size + 1 + 1 = bh
  intro d2 c2 hl2
  rotate_left
  have hl2 : w.heap.size ≤ w.heap.size + 1 + 1 ∧ w.heap.size ≤ w.heap.size + 1 + 1 + 1 ∧ w.heap.size + 1 ≠ w.heap.size + 1 + 1 ∧ w.heap.size + 1 ≠ w.heap.size + 1 + 1 + 1 ∧ w.heap.size + 1 + 1 ≠ w.heap.size + 1 + 1 + 1 := by omega
  revert c2 d2 hl2
  generalize w.heap.size + 1 + 1 + 1 = bh
  generalize w.heap.size + 1 + 1 = bl
  intro c2 d2 hl2
  all_goals
    obtain ⟨hl3, hh3, hrl, hrh, hlh⟩ := hl2
    go_wp2
    go_loopw [14] (fun _ wr => ∃ l : Int, -40 ≤ l ∧ l ≤ x ∧ Hid (lowOf (fun t => hasG G t y) x = lowOf (fun t => hasG G t y) l) ∧ Bk wr bl 40 #[.int .i64 l, .int .i64 y] ∧ Bk wr bh 40 #[.int .i64 x, .int .i64 y] ∧ Bk wr (w.heap.size + 1) 33 #[.int .i64 0, .int .i64 0, .int .i64 0, .int .i64 0] ∧ GB wr g 84 G ∧ Below w.heap.size w wr) (fun _ wr => (cellI wr bl 0 + 41).toNat)
    case atStart => exact ⟨x, by omega, by omega, Lib.hid rfl, c2, d2, r2, hG5, b2⟩
    case round =>
      obtain ⟨l, hl0, hl1, hlow, cl, ch, cr, hGr, hb⟩ := hrel
      clear c2 d2 r2 b2 hG5
      obtain ⟨f0, f1⟩ := box2 cl
      have q0 := cl.frozen 0
      have q1 := cl.frozen 1
      have em : cellI wr bl 0 = l := cellI_of f0
      by_cases hp : hasG G (l - 1) y = true
      · have hin := hasG_in hp
        have Hl := Lib.hid (hlow.out.trans (lowOf_step (p := (fun t => hasG G t y)) hp (by omega)))
        go_wp2_with (go_at_call 64; refine (has_any g G _ _ _ hGr).mono ?_; rintro e w6 ⟨rfl, hb6⟩; have cl6 := cl.on hb6; obtain ⟨f0', f1'⟩ := box2 cl6; have q0' := cl6.frozen 0; have q1' := cl6.frozen 1)
        have cl7 := set2 cl6 (.int .i64 (l - 1)) (.int .i64 y)
        refine ⟨⟨l - 1, by omega, by omega, Hl, cl7, other2 (ch.on hb6) (by omega) _ _, other2 (cr.on hb6) (by omega) _ _, ?_, below2 (hb.trans (hb6.mono hb.size)) hl3 _ _⟩, ?_⟩
        · exact hG.below (below2 (hb.trans (hb6.mono hb.size)) hl3 _ _) hG.lt
        · have e7 := cellI_of ((box2 cl7).1)
          rw [em, e7]
          omega
      · have hp' : hasG G (l - 1) y = false := by simpa using hp
        clear hp
        have Hl := Lib.hid (hlow.out.trans (lowOf_stop (p := (fun t => hasG G t y)) hp'))
        go_wp2_with (go_at_call 64; refine (has_any g G _ _ _ hGr).mono ?_; rintro e w6 ⟨rfl, hb6⟩)
        have cl6 := cl.on hb6
        have ch6 := ch.on hb6
        have cr6 := cr.on hb6
        have hG6 := hGr.on hb6
        have t6 := hb.trans (hb6.mono hb.size)
        clear f0 f1 q0 q1 em hlow hp' cl ch cr hGr hb hb6
        go_loopw [33] (fun _ wr => ∃ h : Int, x ≤ h ∧ h ≤ 39 ∧ Hid (highOf (fun t => hasG G t y) (x + 1) = highOf (fun t => hasG G t y) (h + 1)) ∧ Bk wr bl 40 #[.int .i64 l, .int .i64 y] ∧ Bk wr bh 40 #[.int .i64 h, .int .i64 y] ∧ Bk wr (w.heap.size + 1) 33 #[.int .i64 0, .int .i64 0, .int .i64 0, .int .i64 0] ∧ GB wr g 84 G ∧ Below w.heap.size w wr) (fun _ wr => (41 - cellI wr bh 0).toNat)
        case atStart => exact ⟨x, by omega, by omega, Lib.hid rfl, cl6, ch6, cr6, hG6, t6⟩
        case round =>
          obtain ⟨h, hh0, hh1, hhigh, cl, ch, cr, hGr, hb⟩ := hrel
          clear cl6 ch6 cr6 hG6 t6
          obtain ⟨f0, f1⟩ := box2 ch
          have q0 := ch.frozen 0
          have q1 := ch.frozen 1
          have em : cellI wr bh 0 = h := cellI_of f0
          by_cases hp : hasG G (h + 1) y = true
          · have hin := hasG_in hp
            have Hh := Lib.hid (hhigh.out.trans (highOf_step (p := (fun t => hasG G t y)) hp (by omega)))
            go_wp2_with (go_at_call 64; refine (has_any g G _ _ _ hGr).mono ?_; rintro e w6 ⟨rfl, hb6⟩; have ch6 := ch.on hb6; obtain ⟨f0', f1'⟩ := box2 ch6; have q0' := ch6.frozen 0; have q1' := ch6.frozen 1)
            have ch7 := set2 ch6 (.int .i64 (h + 1)) (.int .i64 y)
            refine ⟨⟨h + 1, by omega, by omega, Hh, other2 (cl.on hb6) (by omega) _ _, ch7, other2 (cr.on hb6) (by omega) _ _, ?_, below2 (hb.trans (hb6.mono hb.size)) hh3 _ _⟩, ?_⟩
            · exact hG.below (below2 (hb.trans (hb6.mono hb.size)) hh3 _ _) hG.lt
            · have e7 := cellI_of ((box2 ch7).1)
              rw [em, e7]
              omega
          · have hp' : hasG G (h + 1) y = false := by simpa using hp
            clear hp
            have Hh := Lib.hid (hhigh.out.trans (highOf_stop (p := (fun t => hasG G t y)) hp'))
            obtain ⟨k0, k1⟩ := box2 cl
            go_wp2_with (go_at_call 64; refine (has_any g G _ _ _ hGr).mono ?_; rintro e w6 ⟨rfl, hb6⟩; obtain ⟨k0', k1'⟩ := box2 (cl.on hb6); obtain ⟨f0', f1'⟩ := box2 (ch.on hb6); have cr6 := cr.on hb6; obtain ⟨e0', e1', e2', e3'⟩ := box4 cr6; have q0' := cr6.frozen 0; have q1' := cr6.frozen 1; have q2' := cr6.frozen 2; have q3' := cr6.frozen 3)
            obtain ⟨s0, s1, s2, s3⟩ := set4of cr6 (.int .i64 l) (.int .i64 y) (.int .i64 (h + 1)) (.int .i64 (y + 1))
            refine bodyPost_ret (v := .agg #[.int .i64 l, .int .i64 y, .int .i64 (h + 1), .int .i64 (y + 1)]) (by simp [results, Try.results59, go_sem, s0, s1, s2, s3]) rfl ⟨?_, below4 (hb.trans (hb6.mono hb.size)) (Nat.le_succ _) _ _ _ _⟩
            rw [Hl.out, Hh.out]

/-- runThrough. -/
theorem through_any (g : Nat) (G : Gr) (x y : Int) (vert : Bool) (w : World) (hG : GB w g 84 G) (hx : -40 ≤ x ∧ x ≤ 39) (hy : -40 ≤ y ∧ y ≤ 39) :
    Calls Try.prog 59 #[.pointer (some ⟨g, 0, none⟩), .agg #[.int .i64 x, .int .i64 y], .bool vert] w fun e w' => e = .returned (runR G x y vert).val ∧ Below w.heap.size w w' := by
  cases vert
  · exact through_h g G x y w hG hx hy
  · exact through_v g G x y w hG hx hy

end Go.Proofs.Ytcdfbfnnlfgkfaa
