/- Contracts: the program's runThrough on a set. Condition: the cell lies on the chip. Contract: the program's RegionContains. No conditions. Contracts: RunThrough of the reference and of the program. No conditions. Contracts: GapThrough of the reference and of the program. No conditions. -/
import Derived.Test.YtooglkdloaaomaaCanonA
import Derived.Test.YtooglkdloaaomaaMathA
import Derived.Test.YtooglkdloaaomaaWidthA
import Derived.Deep.RegionHeld3
import Derived.Test.YtooglkdloaaomaaCombA
namespace Go.Proofs.Ytooglkdloaaomaa
open Go.RowKit

/-- The number in a cell. -/
def cellI (w : World) (g i : Nat) : Int := match w.cell? ⟨g, i, none⟩ with | some v => intOf v | none => 0
theorem cellI_of {w : World} {g i : Nat} {n : Int} (h : w.cell? ⟨g, i, none⟩ = some (.int .i64 n)) : cellI w g i = n := by unfold cellI; rw [h]; rfl
theorem set2 {w : World} {b : Nat} {t : TypeId} {a0 a1 : Value} (h : Bk w b t #[a0, a1]) (x0 x1 : Value) : Bk ((w.setCell ⟨b, 0, none⟩ x0).setCell ⟨b, 1, none⟩ x1) b t #[x0, x1] := (h.store 0 x0).store 1 x1
theorem other2 {w : World} {g b : Nat} {t : TypeId} {cs : Array Value} (h : Bk w g t cs) (hne : g ≠ b) (x0 x1 : Value) : Bk ((w.setCell ⟨b, 0, none⟩ x0).setCell ⟨b, 1, none⟩ x1) g t cs := (h.other (p := ⟨b, 0, none⟩) hne x0).other (p := ⟨b, 1, none⟩) hne x1
theorem below2 {B b : Nat} {a w : World} (h : Below B a w) (hb : B ≤ b) (x0 x1 : Value) : Below B a ((w.setCell ⟨b, 0, none⟩ x0).setCell ⟨b, 1, none⟩ x1) := (h.setCell hb x0).setCell hb x1
theorem below4 {B b : Nat} {a w : World} (h : Below B a w) (hb : B ≤ b) (x0 x1 x2 x3 : Value) : Below B a ((((w.setCell ⟨b, 0, none⟩ x0).setCell ⟨b, 1, none⟩ x1).setCell ⟨b, 2, none⟩ x2).setCell ⟨b, 3, none⟩ x3) := (((h.setCell hb x0).setCell hb x1).setCell hb x2).setCell hb x3
theorem set4of {w : World} {b : Nat} {t : TypeId} {a0 a1 a2 a3 : Value} (h : Bk w b t #[a0, a1, a2, a3]) (x0 x1 x2 x3 : Value) :
    (w.setCell ⟨b, 0, none⟩ x0).cell? ⟨b, 0, none⟩ = some x0 ∧ ((w.setCell ⟨b, 0, none⟩ x0).setCell ⟨b, 1, none⟩ x1).cell? ⟨b, 1, none⟩ = some x1 ∧
    (((w.setCell ⟨b, 0, none⟩ x0).setCell ⟨b, 1, none⟩ x1).setCell ⟨b, 2, none⟩ x2).cell? ⟨b, 2, none⟩ = some x2 ∧
    ((((w.setCell ⟨b, 0, none⟩ x0).setCell ⟨b, 1, none⟩ x1).setCell ⟨b, 2, none⟩ x2).setCell ⟨b, 3, none⟩ x3).cell? ⟨b, 3, none⟩ = some x3 :=
  ⟨(h.store 0 x0).cell 0, ((h.store 0 x0).store 1 x1).cell 1, (((h.store 0 x0).store 1 x1).store 2 x2).cell 2, ((((h.store 0 x0).store 1 x1).store 2 x2).store 3 x3).cell 3⟩

set_option maxHeartbeats 1600000 in
set_option maxRecDepth 100000 in
theorem through_v (g : Nat) (G : Gr) (x y : Int) (w : World) (hG : GB w g 77 G) (hx : -40 ≤ x ∧ x ≤ 39) (hy : -40 ≤ y ∧ y ≤ 39) :
    Calls Try.prog 93 #[.pointer (some ⟨g, 0, none⟩), .agg #[.int .i64 x, .int .i64 y], .bool true] w fun e w' => e = .returned (.agg #[.int .i64 x, .int .i64 (lowOf (fun t => hasG G x t) y), .int .i64 (x + 1), .int .i64 (highOf (fun t => hasG G x t) (y + 1))]) ∧ Below w.heap.size w w' := by
  have z0 := Bk.new w 53 #[.int .i64 x, .int .i64 y]
  have r0 := Bk.new (w.alloc (.cells #[.int .i64 x, .int .i64 y] 53)) 32 #[.int .i64 0, .int .i64 0, .int .i64 0, .int .i64 0]
  have b0 := ((Below.refl w.heap.size w).alloc (Nat.le_refl _) (.cells #[.int .i64 x, .int .i64 y] 53)).alloc (by simp) (.cells #[.int .i64 0, .int .i64 0, .int .i64 0, .int .i64 0] 32)
  have c0 := Bk.new ((w.alloc (.cells #[.int .i64 x, .int .i64 y] 53)).alloc (.cells #[.int .i64 0, .int .i64 0, .int .i64 0, .int .i64 0] 32)) 53 #[.int .i64 x, .int .i64 y]
  have c1 := c0.alloc (.cells #[.int .i64 x, .int .i64 y] 53)
  have d1 := Bk.new (((w.alloc (.cells #[.int .i64 x, .int .i64 y] 53)).alloc (.cells #[.int .i64 0, .int .i64 0, .int .i64 0, .int .i64 0] 32)).alloc (.cells #[.int .i64 x, .int .i64 y] 53)) 53 #[.int .i64 x, .int .i64 y]
  have r1 := (r0.alloc (.cells #[.int .i64 x, .int .i64 y] 53)).alloc (.cells #[.int .i64 x, .int .i64 y] 53)
  have b1 := (b0.alloc (by simp; omega) (.cells #[.int .i64 x, .int .i64 y] 53)).alloc (by simp; omega) (.cells #[.int .i64 x, .int .i64 y] 53)
  have hc := box2 (z0.alloc (.cells #[.int .i64 0, .int .i64 0, .int .i64 0, .int .i64 0] 32))
  clear z0 r0 b0 c0
  have e1 : (w.alloc (.cells #[.int .i64 x, .int .i64 y] 53)).heap.size = w.heap.size + 1 := by simp
  have e2 : ((w.alloc (.cells #[.int .i64 x, .int .i64 y] 53)).alloc (.cells #[.int .i64 0, .int .i64 0, .int .i64 0, .int .i64 0] 32)).heap.size = w.heap.size + 1 + 1 := by simp
  have e3 : (((w.alloc (.cells #[.int .i64 x, .int .i64 y] 53)).alloc (.cells #[.int .i64 0, .int .i64 0, .int .i64 0, .int .i64 0] 32)).alloc (.cells #[.int .i64 x, .int .i64 y] 53)).heap.size = w.heap.size + 1 + 1 + 1 := by simp
  rw [e1] at r1
  rw [e2] at c1
  rw [e3] at d1
  clear e1 e2 e3
  go_enter Try.func93, Try.ntmps93
  go_wp2
  go_region
  clear hc
  all_goals
    have c2 := c1.drew
    have d2 := d1.drew
    have r2 := r1.drew
    have b2 := b1.drew
    clear c1 d1 r1 b1
    revert c2 d2 r2 b2
    generalize World.drew _ = w5
    intro c2 d2 r2 b2
    have hG5 := hG.below b2 hG.lt
  rotate_left
  have hl2 : w.heap.size ≤ w.heap.size + 1 + 1 + 1 ∧ w.heap.size ≤ w.heap.size + 1 + 1 ∧ w.heap.size + 1 ≠ w.heap.size + 1 + 1 + 1 ∧ w.heap.size + 1 ≠ w.heap.size + 1 + 1 ∧ w.heap.size + 1 + 1 + 1 ≠ w.heap.size + 1 + 1 := by omega
  revert c2 d2 hl2
  generalize w.heap.size + 1 + 1 + 1 = bl
  generalize w.heap.size + 1 + 1 = bh
  intro d2 c2 hl2
  rotate_left
  have hl2 : w.heap.size ≤ w.heap.size + 1 + 1 ∧ w.heap.size ≤ w.heap.size + 1 + 1 + 1 ∧ w.heap.size + 1 ≠ w.heap.size + 1 + 1 ∧ w.heap.size + 1 ≠ w.heap.size + 1 + 1 + 1 ∧ w.heap.size + 1 + 1 ≠ w.heap.size + 1 + 1 + 1 := by omega
  revert c2 d2 hl2
  generalize w.heap.size + 1 + 1 + 1 = bh
  generalize w.heap.size + 1 + 1 = bl
  intro c2 d2 hl2
  all_goals
    obtain ⟨hl3, hh3, hrl, hrh, hlh⟩ := hl2
    go_wp2
    go_loopw [14] (fun _ wr => ∃ l : Int, -40 ≤ l ∧ l ≤ y ∧ Hid (lowOf (fun t => hasG G x t) y = lowOf (fun t => hasG G x t) l) ∧ Bk wr bl 53 #[.int .i64 x, .int .i64 l] ∧ Bk wr bh 53 #[.int .i64 x, .int .i64 y] ∧ Bk wr (w.heap.size + 1) 32 #[.int .i64 0, .int .i64 0, .int .i64 0, .int .i64 0] ∧ GB wr g 77 G ∧ Below w.heap.size w wr) (fun _ wr => (cellI wr bl 1 + 41).toNat)
    case atStart => exact ⟨y, by omega, by omega, Lib.hid rfl, c2, d2, r2, hG5, b2⟩
    case round =>
      obtain ⟨l, hl0, hl1, hlow, cl, ch, cr, hGr, hb⟩ := hrel
      clear c2 d2 r2 b2 hG5
      obtain ⟨f0, f1⟩ := box2 cl
      have q0 := cl.frozen 0
      have q1 := cl.frozen 1
      have em : cellI wr bl 1 = l := cellI_of f1
      by_cases hp : hasG G x (l - 1) = true
      · have hin := hasG_in hp
        have Hl := Lib.hid (hlow.out.trans (lowOf_step (p := (fun t => hasG G x t)) hp (by omega)))
        go_wp2_with (go_at_call 103; refine (has_any g G _ _ _ hGr).mono ?_; rintro e w6 ⟨rfl, hb6⟩; have cl6 := cl.on hb6; obtain ⟨f0', f1'⟩ := box2 cl6; have q0' := cl6.frozen 0; have q1' := cl6.frozen 1)
        have cl7 := set2 cl6 (.int .i64 x) (.int .i64 (l - 1))
        refine ⟨⟨l - 1, by omega, by omega, Hl, cl7, other2 (ch.on hb6) (by omega) _ _, other2 (cr.on hb6) (by omega) _ _, ?_, below2 (hb.trans (hb6.mono hb.size)) hl3 _ _⟩, ?_⟩
        · exact hG.below (below2 (hb.trans (hb6.mono hb.size)) hl3 _ _) hG.lt
        · have e7 := cellI_of ((box2 cl7).2)
          rw [em, e7]
          omega
      · have hp' : hasG G x (l - 1) = false := by simpa using hp
        clear hp
        have Hl := Lib.hid (hlow.out.trans (lowOf_stop (p := (fun t => hasG G x t)) hp'))
        go_wp2_with (go_at_call 103; refine (has_any g G _ _ _ hGr).mono ?_; rintro e w6 ⟨rfl, hb6⟩)
        have cl6 := cl.on hb6
        have ch6 := ch.on hb6
        have cr6 := cr.on hb6
        have hG6 := hGr.on hb6
        have t6 := hb.trans (hb6.mono hb.size)
        clear f0 f1 q0 q1 em hlow hp' cl ch cr hGr hb hb6
        go_loopw [33] (fun _ wr => ∃ h : Int, y ≤ h ∧ h ≤ 39 ∧ Hid (highOf (fun t => hasG G x t) (y + 1) = highOf (fun t => hasG G x t) (h + 1)) ∧ Bk wr bl 53 #[.int .i64 x, .int .i64 l] ∧ Bk wr bh 53 #[.int .i64 x, .int .i64 h] ∧ Bk wr (w.heap.size + 1) 32 #[.int .i64 0, .int .i64 0, .int .i64 0, .int .i64 0] ∧ GB wr g 77 G ∧ Below w.heap.size w wr) (fun _ wr => (41 - cellI wr bh 1).toNat)
        case atStart => exact ⟨y, by omega, by omega, Lib.hid rfl, cl6, ch6, cr6, hG6, t6⟩
        case round =>
          obtain ⟨h, hh0, hh1, hhigh, cl, ch, cr, hGr, hb⟩ := hrel
          clear cl6 ch6 cr6 hG6 t6
          obtain ⟨f0, f1⟩ := box2 ch
          have q0 := ch.frozen 0
          have q1 := ch.frozen 1
          have em : cellI wr bh 1 = h := cellI_of f1
          by_cases hp : hasG G x (h + 1) = true
          · have hin := hasG_in hp
            have Hh := Lib.hid (hhigh.out.trans (highOf_step (p := (fun t => hasG G x t)) hp (by omega)))
            go_wp2_with (go_at_call 103; refine (has_any g G _ _ _ hGr).mono ?_; rintro e w6 ⟨rfl, hb6⟩; have ch6 := ch.on hb6; obtain ⟨f0', f1'⟩ := box2 ch6; have q0' := ch6.frozen 0; have q1' := ch6.frozen 1)
            have ch7 := set2 ch6 (.int .i64 x) (.int .i64 (h + 1))
            refine ⟨⟨h + 1, by omega, by omega, Hh, other2 (cl.on hb6) (by omega) _ _, ch7, other2 (cr.on hb6) (by omega) _ _, ?_, below2 (hb.trans (hb6.mono hb.size)) hh3 _ _⟩, ?_⟩
            · exact hG.below (below2 (hb.trans (hb6.mono hb.size)) hh3 _ _) hG.lt
            · have e7 := cellI_of ((box2 ch7).2)
              rw [em, e7]
              omega
          · have hp' : hasG G x (h + 1) = false := by simpa using hp
            clear hp
            have Hh := Lib.hid (hhigh.out.trans (highOf_stop (p := (fun t => hasG G x t)) hp'))
            obtain ⟨k0, k1⟩ := box2 cl
            go_wp2_with (go_at_call 103; refine (has_any g G _ _ _ hGr).mono ?_; rintro e w6 ⟨rfl, hb6⟩; obtain ⟨k0', k1'⟩ := box2 (cl.on hb6); obtain ⟨f0', f1'⟩ := box2 (ch.on hb6); have cr6 := cr.on hb6; obtain ⟨e0', e1', e2', e3'⟩ := box4 cr6; have q0' := cr6.frozen 0; have q1' := cr6.frozen 1; have q2' := cr6.frozen 2; have q3' := cr6.frozen 3)
            obtain ⟨s0, s1, s2, s3⟩ := set4of cr6 (.int .i64 x) (.int .i64 l) (.int .i64 (x + 1)) (.int .i64 (h + 1))
            refine bodyPost_ret (v := .agg #[.int .i64 x, .int .i64 l, .int .i64 (x + 1), .int .i64 (h + 1)]) (by simp [results, Try.results93, go_sem, s0, s1, s2, s3]) rfl ⟨?_, below4 (hb.trans (hb6.mono hb.size)) (Nat.le_succ _) _ _ _ _⟩
            rw [Hl.out, Hh.out]

set_option maxHeartbeats 1600000 in
set_option maxRecDepth 100000 in
theorem through_h (g : Nat) (G : Gr) (x y : Int) (w : World) (hG : GB w g 77 G) (hx : -40 ≤ x ∧ x ≤ 39) (hy : -40 ≤ y ∧ y ≤ 39) :
    Calls Try.prog 93 #[.pointer (some ⟨g, 0, none⟩), .agg #[.int .i64 x, .int .i64 y], .bool false] w fun e w' => e = .returned (.agg #[.int .i64 (lowOf (fun t => hasG G t y) x), .int .i64 y, .int .i64 (highOf (fun t => hasG G t y) (x + 1)), .int .i64 (y + 1)]) ∧ Below w.heap.size w w' := by
  have z0 := Bk.new w 53 #[.int .i64 x, .int .i64 y]
  have r0 := Bk.new (w.alloc (.cells #[.int .i64 x, .int .i64 y] 53)) 32 #[.int .i64 0, .int .i64 0, .int .i64 0, .int .i64 0]
  have b0 := ((Below.refl w.heap.size w).alloc (Nat.le_refl _) (.cells #[.int .i64 x, .int .i64 y] 53)).alloc (by simp) (.cells #[.int .i64 0, .int .i64 0, .int .i64 0, .int .i64 0] 32)
  have c0 := Bk.new ((w.alloc (.cells #[.int .i64 x, .int .i64 y] 53)).alloc (.cells #[.int .i64 0, .int .i64 0, .int .i64 0, .int .i64 0] 32)) 53 #[.int .i64 x, .int .i64 y]
  have c1 := c0.alloc (.cells #[.int .i64 x, .int .i64 y] 53)
  have d1 := Bk.new (((w.alloc (.cells #[.int .i64 x, .int .i64 y] 53)).alloc (.cells #[.int .i64 0, .int .i64 0, .int .i64 0, .int .i64 0] 32)).alloc (.cells #[.int .i64 x, .int .i64 y] 53)) 53 #[.int .i64 x, .int .i64 y]
  have r1 := (r0.alloc (.cells #[.int .i64 x, .int .i64 y] 53)).alloc (.cells #[.int .i64 x, .int .i64 y] 53)
  have b1 := (b0.alloc (by simp; omega) (.cells #[.int .i64 x, .int .i64 y] 53)).alloc (by simp; omega) (.cells #[.int .i64 x, .int .i64 y] 53)
  have hc := box2 (z0.alloc (.cells #[.int .i64 0, .int .i64 0, .int .i64 0, .int .i64 0] 32))
  clear z0 r0 b0 c0
  have e1 : (w.alloc (.cells #[.int .i64 x, .int .i64 y] 53)).heap.size = w.heap.size + 1 := by simp
  have e2 : ((w.alloc (.cells #[.int .i64 x, .int .i64 y] 53)).alloc (.cells #[.int .i64 0, .int .i64 0, .int .i64 0, .int .i64 0] 32)).heap.size = w.heap.size + 1 + 1 := by simp
  have e3 : (((w.alloc (.cells #[.int .i64 x, .int .i64 y] 53)).alloc (.cells #[.int .i64 0, .int .i64 0, .int .i64 0, .int .i64 0] 32)).alloc (.cells #[.int .i64 x, .int .i64 y] 53)).heap.size = w.heap.size + 1 + 1 + 1 := by simp
  rw [e1] at r1
  rw [e2] at c1
  rw [e3] at d1
  clear e1 e2 e3
  go_enter Try.func93, Try.ntmps93
  go_wp2
  go_region
  clear hc
  all_goals
    have c2 := c1.drew
    have d2 := d1.drew
    have r2 := r1.drew
    have b2 := b1.drew
    clear c1 d1 r1 b1
    revert c2 d2 r2 b2
    generalize World.drew _ = w5
    intro c2 d2 r2 b2
    have hG5 := hG.below b2 hG.lt
  rotate_left
  have hl2 : w.heap.size ≤ w.heap.size + 1 + 1 + 1 ∧ w.heap.size ≤ w.heap.size + 1 + 1 ∧ w.heap.size + 1 ≠ w.heap.size + 1 + 1 + 1 ∧ w.heap.size + 1 ≠ w.heap.size + 1 + 1 ∧ w.heap.size + 1 + 1 + 1 ≠ w.heap.size + 1 + 1 := by omega
  revert c2 d2 hl2
  generalize w.heap.size + 1 + 1 + 1 = bl
  generalize w.heap.size + 1 + 1 = bh
  intro d2 c2 hl2
  rotate_left
  have hl2 : w.heap.size ≤ w.heap.size + 1 + 1 ∧ w.heap.size ≤ w.heap.size + 1 + 1 + 1 ∧ w.heap.size + 1 ≠ w.heap.size + 1 + 1 ∧ w.heap.size + 1 ≠ w.heap.size + 1 + 1 + 1 ∧ w.heap.size + 1 + 1 ≠ w.heap.size + 1 + 1 + 1 := by omega
  revert c2 d2 hl2
  generalize w.heap.size + 1 + 1 + 1 = bh
  generalize w.heap.size + 1 + 1 = bl
  intro c2 d2 hl2
  all_goals
    obtain ⟨hl3, hh3, hrl, hrh, hlh⟩ := hl2
    go_wp2
    go_loopw [14] (fun _ wr => ∃ l : Int, -40 ≤ l ∧ l ≤ x ∧ Hid (lowOf (fun t => hasG G t y) x = lowOf (fun t => hasG G t y) l) ∧ Bk wr bl 53 #[.int .i64 l, .int .i64 y] ∧ Bk wr bh 53 #[.int .i64 x, .int .i64 y] ∧ Bk wr (w.heap.size + 1) 32 #[.int .i64 0, .int .i64 0, .int .i64 0, .int .i64 0] ∧ GB wr g 77 G ∧ Below w.heap.size w wr) (fun _ wr => (cellI wr bl 0 + 41).toNat)
    case atStart => exact ⟨x, by omega, by omega, Lib.hid rfl, c2, d2, r2, hG5, b2⟩
    case round =>
      obtain ⟨l, hl0, hl1, hlow, cl, ch, cr, hGr, hb⟩ := hrel
      clear c2 d2 r2 b2 hG5
      obtain ⟨f0, f1⟩ := box2 cl
      have q0 := cl.frozen 0
      have q1 := cl.frozen 1
      have em : cellI wr bl 0 = l := cellI_of f0
      by_cases hp : hasG G (l - 1) y = true
      · have hin := hasG_in hp
        have Hl := Lib.hid (hlow.out.trans (lowOf_step (p := (fun t => hasG G t y)) hp (by omega)))
        go_wp2_with (go_at_call 103; refine (has_any g G _ _ _ hGr).mono ?_; rintro e w6 ⟨rfl, hb6⟩; have cl6 := cl.on hb6; obtain ⟨f0', f1'⟩ := box2 cl6; have q0' := cl6.frozen 0; have q1' := cl6.frozen 1)
        have cl7 := set2 cl6 (.int .i64 (l - 1)) (.int .i64 y)
        refine ⟨⟨l - 1, by omega, by omega, Hl, cl7, other2 (ch.on hb6) (by omega) _ _, other2 (cr.on hb6) (by omega) _ _, ?_, below2 (hb.trans (hb6.mono hb.size)) hl3 _ _⟩, ?_⟩
        · exact hG.below (below2 (hb.trans (hb6.mono hb.size)) hl3 _ _) hG.lt
        · have e7 := cellI_of ((box2 cl7).1)
          rw [em, e7]
          omega
      · have hp' : hasG G (l - 1) y = false := by simpa using hp
        clear hp
        have Hl := Lib.hid (hlow.out.trans (lowOf_stop (p := (fun t => hasG G t y)) hp'))
        go_wp2_with (go_at_call 103; refine (has_any g G _ _ _ hGr).mono ?_; rintro e w6 ⟨rfl, hb6⟩)
        have cl6 := cl.on hb6
        have ch6 := ch.on hb6
        have cr6 := cr.on hb6
        have hG6 := hGr.on hb6
        have t6 := hb.trans (hb6.mono hb.size)
        clear f0 f1 q0 q1 em hlow hp' cl ch cr hGr hb hb6
        go_loopw [33] (fun _ wr => ∃ h : Int, x ≤ h ∧ h ≤ 39 ∧ Hid (highOf (fun t => hasG G t y) (x + 1) = highOf (fun t => hasG G t y) (h + 1)) ∧ Bk wr bl 53 #[.int .i64 l, .int .i64 y] ∧ Bk wr bh 53 #[.int .i64 h, .int .i64 y] ∧ Bk wr (w.heap.size + 1) 32 #[.int .i64 0, .int .i64 0, .int .i64 0, .int .i64 0] ∧ GB wr g 77 G ∧ Below w.heap.size w wr) (fun _ wr => (41 - cellI wr bh 0).toNat)
        case atStart => exact ⟨x, by omega, by omega, Lib.hid rfl, cl6, ch6, cr6, hG6, t6⟩
        case round =>
          obtain ⟨h, hh0, hh1, hhigh, cl, ch, cr, hGr, hb⟩ := hrel
          clear cl6 ch6 cr6 hG6 t6
          obtain ⟨f0, f1⟩ := box2 ch
          have q0 := ch.frozen 0
          have q1 := ch.frozen 1
          have em : cellI wr bh 0 = h := cellI_of f0
          by_cases hp : hasG G (h + 1) y = true
          · have hin := hasG_in hp
            have Hh := Lib.hid (hhigh.out.trans (highOf_step (p := (fun t => hasG G t y)) hp (by omega)))
            go_wp2_with (go_at_call 103; refine (has_any g G _ _ _ hGr).mono ?_; rintro e w6 ⟨rfl, hb6⟩; have ch6 := ch.on hb6; obtain ⟨f0', f1'⟩ := box2 ch6; have q0' := ch6.frozen 0; have q1' := ch6.frozen 1)
            have ch7 := set2 ch6 (.int .i64 (h + 1)) (.int .i64 y)
            refine ⟨⟨h + 1, by omega, by omega, Hh, other2 (cl.on hb6) (by omega) _ _, ch7, other2 (cr.on hb6) (by omega) _ _, ?_, below2 (hb.trans (hb6.mono hb.size)) hh3 _ _⟩, ?_⟩
            · exact hG.below (below2 (hb.trans (hb6.mono hb.size)) hh3 _ _) hG.lt
            · have e7 := cellI_of ((box2 ch7).1)
              rw [em, e7]
              omega
          · have hp' : hasG G (h + 1) y = false := by simpa using hp
            clear hp
            have Hh := Lib.hid (hhigh.out.trans (highOf_stop (p := (fun t => hasG G t y)) hp'))
            obtain ⟨k0, k1⟩ := box2 cl
            go_wp2_with (go_at_call 103; refine (has_any g G _ _ _ hGr).mono ?_; rintro e w6 ⟨rfl, hb6⟩; obtain ⟨k0', k1'⟩ := box2 (cl.on hb6); obtain ⟨f0', f1'⟩ := box2 (ch.on hb6); have cr6 := cr.on hb6; obtain ⟨e0', e1', e2', e3'⟩ := box4 cr6; have q0' := cr6.frozen 0; have q1' := cr6.frozen 1; have q2' := cr6.frozen 2; have q3' := cr6.frozen 3)
            obtain ⟨s0, s1, s2, s3⟩ := set4of cr6 (.int .i64 l) (.int .i64 y) (.int .i64 (h + 1)) (.int .i64 (y + 1))
            refine bodyPost_ret (v := .agg #[.int .i64 l, .int .i64 y, .int .i64 (h + 1), .int .i64 (y + 1)]) (by simp [results, Try.results93, go_sem, s0, s1, s2, s3]) rfl ⟨?_, below4 (hb.trans (hb6.mono hb.size)) (Nat.le_succ _) _ _ _ _⟩
            rw [Hl.out, Hh.out]

/-- runThrough. -/
theorem through_any (g : Nat) (G : Gr) (x y : Int) (vert : Bool) (w : World) (hG : GB w g 77 G) (hx : -40 ≤ x ∧ x ≤ 39) (hy : -40 ≤ y ∧ y ≤ 39) :
    Calls Try.prog 93 #[.pointer (some ⟨g, 0, none⟩), .agg #[.int .i64 x, .int .i64 y], .bool vert] w fun e w' => e = .returned (runR G x y vert).val ∧ Below w.heap.size w w' := by
  cases vert
  · exact through_h g G x y w hG hx hy
  · exact through_v g G x y w hG hx hy

end Go.Proofs.Ytooglkdloaaomaa

namespace Go.Proofs.Ytooglkdloaaomaa
open Go.RowKit

/-- A valid rectangle has the cell (x, y). -/
def containsR (x y : Int) (r : Rc) : Bool := okRc r && decide (r.x0 ≤ x ∧ x < r.x1 ∧ r.y0 ≤ y ∧ y < r.y1)
theorem contains_no {x y : Int} {r : Rc} (h : okRc r = false) : containsR x y r = false := by unfold containsR; rw [h]; rfl
theorem contains_yes {x y : Int} {r : Rc} (h : okRc r = true) : containsR x y r = decide (r.x0 ≤ x ∧ x < r.x1 ∧ r.y0 ≤ y ∧ y < r.y1) := by unfold containsR; rw [h]; rfl
theorem inR_ix {r : Rc} {x y : Int} (hc : onC x y = true) : inR r (ix x y).toNat = decide (r.x0 ≤ x ∧ x < r.x1 ∧ r.y0 ≤ y ∧ y < r.y1) := by
  have h := (onC_iff x y).1 hc
  obtain ⟨e, _⟩ := ix_nat hc
  rw [Bool.eq_iff_iff, inR_iff, decide_eq_true_iff, e]
  have e1 : ((y + 40).toNat * 80 + (x + 40).toNat) / 80 = (y + 40).toNat ∧ ((y + 40).toNat * 80 + (x + 40).toNat) % 80 = (x + 40).toNat := by omega
  rw [e1.1, e1.2]
  omega
theorem any_contains {rs : List Rc} (hok : okAll rs = true) (x y : Int) : rs.any (containsR x y) = hasG (cellsG rs) x y := by
  rw [okAll, List.all_eq_true] at hok
  by_cases hc : onC x y = true
  · rw [hasG_on hc, Bool.eq_iff_iff]
    unfold cellsG
    rw [List.any_eq_true, List.any_eq_true]
    constructor
    · rintro ⟨r, hr, h⟩
      rw [contains_yes (hok r hr), ← inR_ix hc] at h
      exact ⟨r, hr, h⟩
    · rintro ⟨r, hr, h⟩
      refine ⟨r, hr, ?_⟩
      rw [contains_yes (hok r hr), ← inR_ix hc]
      exact h
  · have hc' : onC x y = false := by simpa using hc
    rw [hasG_off hc', Bool.eq_false_iff]
    intro h
    rw [List.any_eq_true] at h
    obtain ⟨r, hr, h⟩ := h
    rw [contains_yes (hok r hr), decide_eq_true_iff] at h
    have h2 := (okRc_iff r).1 (hok r hr)
    exact hc ((onC_iff x y).2 (by omega))

set_option maxHeartbeats 400000 in
/-- RectContains. -/
theorem rectContains_any (r : Rc) (x y : Int) (w : World) : Calls Try.prog 146 #[r.val, .int .i64 x, .int .i64 y] w fun e w' => e = .returned (.bool (containsR x y r)) ∧ Below w.heap.size w w' := by
  obtain ⟨x0, y0, x1, y1⟩ := r
  unfold Rc.val
  dsimp only
  have z0 := Bk.new w 32 #[.int .i64 x0, .int .i64 y0, .int .i64 x1, .int .i64 y1]
  have b0 := (Below.refl w.heap.size w).alloc (Nat.le_refl _) (.cells #[.int .i64 x0, .int .i64 y0, .int .i64 x1, .int .i64 y1] 32)
  by_cases hok : okRc ⟨x0, y0, x1, y1⟩ = true
  · have He := Lib.hid (contains_yes (x := x) (y := y) hok)
    go_enter Try.func146, Try.ntmps146
    go_wp2_with (go_at_call 79; refine (valid_impl ⟨x0, y0, x1, y1⟩ _).mono ?_; rintro e w1 ⟨rfl, hb1⟩; obtain ⟨c0, c1, c2, c3⟩ := box4 (z0.on hb1))
    all_goals
      go_ret
      refine ⟨ret_bool ?_, b0.trans (hb1.mono b0.size)⟩
      rw [He.out]
      simp [*] <;> omega
  · have hok' : okRc ⟨x0, y0, x1, y1⟩ = false := by simpa using hok
    clear hok
    have He := Lib.hid (contains_no (x := x) (y := y) hok')
    go_enter Try.func146, Try.ntmps146
    go_wp2_with (go_at_call 79; refine (valid_impl ⟨x0, y0, x1, y1⟩ _).mono ?_; rintro e w1 ⟨rfl, hb1⟩)
    go_ret
    exact ⟨ret_bool He.out.symm, b0.trans (hb1.mono b0.size)⟩

/-- The literal of RegionContains. -/
theorem containsLit_any (r : Rc) (x y : Int) (bx by' : Nat) (w : World) (hx : Bk w bx 2 #[.int .i64 x]) (hy : Bk w by' 2 #[.int .i64 y]) : Calls Try.prog 145 #[r.val, .pointer (some ⟨bx, 0, none⟩), .pointer (some ⟨by', 0, none⟩)] w fun e w' => e = .returned (.bool (containsR x y r)) ∧ Below w.heap.size w w' := by
  obtain ⟨x0, y0, x1, y1⟩ := r
  have z0 := Bk.new w 32 #[.int .i64 x0, .int .i64 y0, .int .i64 x1, .int .i64 y1]
  have b0 := (Below.refl w.heap.size w).alloc (Nat.le_refl _) (.cells #[.int .i64 x0, .int .i64 y0, .int .i64 x1, .int .i64 y1] 32)
  have fx := (hx.alloc (.cells #[.int .i64 x0, .int .i64 y0, .int .i64 x1, .int .i64 y1] 32)).cell 0
  have fy := (hy.alloc (.cells #[.int .i64 x0, .int .i64 y0, .int .i64 x1, .int .i64 y1] 32)).cell 0
  simp only [List.getElem?_toArray, List.getElem?_cons_zero] at fx fy
  obtain ⟨c0, c1, c2, c3⟩ := box4 z0
  unfold Rc.val
  dsimp only
  go_enter Try.func145, Try.ntmps145
  go_wp2_with (go_at_call 146; refine (rectContains_any ⟨x0, y0, x1, y1⟩ x y _).mono ?_; rintro e w1 ⟨rfl, hb1⟩)
  go_ret
  exact ⟨rfl, b0.trans (hb1.mono b0.size)⟩

theorem any_first {α : Type} {p : α → Bool} {l : List α} {k : Nat} {a : α} (h : l[k]? = some a) (hp : p a = true) : (l.drop k).any p = true := by
  rw [List.any_eq_true]
  obtain ⟨hk, he⟩ := List.getElem?_eq_some_iff.1 h
  exact ⟨a, by rw [List.drop_eq_getElem_cons hk, he]; simp, hp⟩
theorem any_next {α : Type} {p : α → Bool} {l : List α} {k : Nat} {a : α} (h : l[k]? = some a) (hp : p a = false) : (l.drop k).any p = (l.drop (k + 1)).any p := by
  obtain ⟨hk, he⟩ := List.getElem?_eq_some_iff.1 h
  rw [List.drop_eq_getElem_cons hk, he, List.any_cons, hp, Bool.false_or]
theorem any_last {α : Type} {p : α → Bool} {l : List α} {k : Nat} (h : l.length ≤ k) : (l.drop k).any p = false := by rw [List.drop_eq_nil_of_le h]; rfl

set_option maxHeartbeats 400000 in
set_option maxRecDepth 100000 in
/-- slices.IndexFunc with that literal: the index is not negative exactly if there is one. -/
theorem indexContains_any (v : Value) (rs : List Rc) (x y : Int) (bx by' : Nat) (w : World) (hv : RL w 0 v rs) (hx : Bk w bx 2 #[.int .i64 x]) (hy : Bk w by' 2 #[.int .i64 y]) :
    Calls Try.prog 162 #[v, .func (.func 145) #[] #[.pointer (some ⟨bx, 0, none⟩), .pointer (some ⟨by', 0, none⟩)]] w fun e w' => (∃ n : Int, e = .returned (.int .i64 n) ∧ decide (0 ≤ n) = rs.any (containsR x y)) ∧ Below w.heap.size w w' := by
  obtain ⟨A, c, rfl, hc, hm, -⟩ := hv.form
  have hm' : rs.length ≤ 9223372036854775807 := by unfold maxLen at hm; omega
  go_enter Try.func162, Try.ntmps162
  go_wp2
  go_loopw [8] (fun i wr => ∃ k : Nat, k ≤ rs.length ∧ i = .int .i64 k ∧ Hid ((rs.drop k).any (containsR x y) = rs.any (containsR x y)) ∧ Below w.heap.size w wr) (fun i _ => rs.length - (intOf i).toNat)
  case atStart => exact ⟨0, Nat.zero_le _, rfl, Lib.hid rfl, Below.refl _ _⟩
  case round =>
    obtain ⟨k, hk, rfl, hf, hb⟩ := hrel
    by_cases hlt : k < rs.length
    · obtain ⟨g, x0, y0, x1, y1, rfl, hr, hg, f0, f1, f2, f3⟩ := (hv.on hb).elem hlt
      have hx1 := hx.on hb
      have hy1 := hy.on hb
      by_cases hp : containsR x y ⟨x0, y0, x1, y1⟩ = true
      · have Hf := Lib.hid (hf.out.symm.trans (any_first hr hp))
        clear hr hf
        go_wp2_with (go_at_call 145; refine (containsLit_any ⟨x0, y0, x1, y1⟩ x y bx by' _ hx1 hy1).mono ?_; rintro e w1 ⟨rfl, hb1⟩)
        go_ret
        refine ⟨⟨_, rfl, ?_⟩, hb.trans (hb1.mono hb.size)⟩
        rw [Hf.out]
        simp
      · have hp' : containsR x y ⟨x0, y0, x1, y1⟩ = false := by simpa using hp
        clear hp
        have Hf := Lib.hid ((any_next hr hp').symm.trans hf.out)
        clear hr hf
        go_wp2_with (go_at_call 145; refine (containsLit_any ⟨x0, y0, x1, y1⟩ x y bx by' _ hx1 hy1).mono ?_; rintro e w1 ⟨rfl, hb1⟩)
        exact ⟨⟨k + 1, by omega, by go_num, Hf, hb.trans (hb1.mono hb.size)⟩, by simp [intOf]; omega⟩
    · have Hf := Lib.hid (hf.out.symm.trans (any_last (by omega)))
      go_wp2
      go_ret
      refine ⟨⟨_, rfl, ?_⟩, hb⟩
      rw [Hf.out]
      simp

/-- slices.ContainsFunc with that literal. -/
theorem containsFunc_any (v : Value) (rs : List Rc) (x y : Int) (bx by' : Nat) (w : World) (hv : RL w 0 v rs) (hx : Bk w bx 2 #[.int .i64 x]) (hy : Bk w by' 2 #[.int .i64 y]) :
    Calls Try.prog 144 #[v, .func (.func 145) #[] #[.pointer (some ⟨bx, 0, none⟩), .pointer (some ⟨by', 0, none⟩)]] w fun e w' => e = .returned (.bool (rs.any (containsR x y))) ∧ Below w.heap.size w w' := by
  go_enter Try.func144, Try.ntmps144
  go_wp2_with fail
  refine (indexContains_any v rs x y bx by' _ hv hx hy).mono ?_
  rintro e w2 ⟨⟨n, rfl, hn⟩, hb2⟩
  have Hn := Lib.hid hn
  clear hn
  go_wp2
  go_ret
  exact ⟨ret_bool Hn.out, hb2⟩

set_option maxHeartbeats 400000 in
/-- RegionContains. -/
theorem regionContains_any (v : Value) (rs : List Rc) (x y : Int) (w : World) (hv : RL w 0 v rs) : Calls Try.prog 92 #[v, .int .i64 x, .int .i64 y] w fun e w' => e = .returned (.bool (isReg rs && hasG (cellsG rs) x y)) ∧ Below w.heap.size w w' := by
  have zx := (Bk.new w 2 #[.int .i64 x]).alloc (.cells #[.int .i64 y] 2)
  have zy := Bk.new (w.alloc (.cells #[.int .i64 x] 2)) 2 #[.int .i64 y]
  have ez : (w.alloc (.cells #[.int .i64 x] 2)).heap.size = w.heap.size + 1 := by simp
  rw [ez] at zy
  clear ez
  have b0 := ((Below.refl w.heap.size w).alloc (Nat.le_refl _) (.cells #[.int .i64 x] 2)).alloc (by simp) (.cells #[.int .i64 y] 2)
  have hvA := (hv.alloc (.cells #[.int .i64 x] 2)).alloc (.cells #[.int .i64 y] 2)
  by_cases h : isReg rs = true
  · have Hc := Lib.hid (any_contains ((isReg_iff rs).1 h).2.1 x y)
    go_enter Try.func92, Try.ntmps92
    go_wp2_with fail
    refine (isRegion_any v rs _ hvA).mono ?_
    rintro e w1 ⟨rfl, hb1⟩
    rw [h]
    go_wp2_with fail
    refine (containsFunc_any v rs x y _ _ _ (hvA.on hb1) (zx.on hb1) (zy.on hb1)).mono ?_
    rintro e w2 ⟨rfl, hb2⟩
    rw [Hc.out]
    have t1 := b0.trans (hb1.mono b0.size)
    go_wp2
    go_ret
    exact ⟨ret_bool (by rw [h]; rfl), t1.trans (hb2.mono t1.size)⟩
  · have h' : isReg rs = false := by simpa using h
    clear h
    go_enter Try.func92, Try.ntmps92
    go_wp2_with fail
    refine (isRegion_any v rs _ hvA).mono ?_
    rintro e w1 ⟨rfl, hb1⟩
    rw [h']
    go_wp2
    go_ret
    exact ⟨ret_bool (by rw [h']; rfl), b0.trans (hb1.mono b0.size)⟩

end Go.Proofs.Ytooglkdloaaomaa

namespace Go.Proofs.Ytooglkdloaaomaa
open Go.RowKit

theorem l17Run_ag (v : Value) (G : Gr) (x y : Int) (vert : Bool) (w : World) (hG : GS w 0 v G) (hx : -40 ≤ x ∧ x ≤ 39) (hy : -40 ≤ y ∧ y ≤ 39) :
    Calls Try.prog 168 #[v, .int .i64 x, .int .i64 y, .bool vert] w fun e w' => e = .returned (.agg #[.int .i64 (runR G x y vert).x0, .int .i64 (runR G x y vert).y0, .int .i64 (runR G x y vert).x1, .int .i64 (runR G x y vert).y1]) ∧ Below w.heap.size w w' := l17Run_any v G x y vert w hG hx hy
theorem through_ag (g : Nat) (G : Gr) (x y : Int) (vert : Bool) (w : World) (hG : GB w g 77 G) (hx : -40 ≤ x ∧ x ≤ 39) (hy : -40 ≤ y ∧ y ≤ 39) :
    Calls Try.prog 93 #[.pointer (some ⟨g, 0, none⟩), .agg #[.int .i64 x, .int .i64 y], .bool vert] w fun e w' => e = .returned (.agg #[.int .i64 (runR G x y vert).x0, .int .i64 (runR G x y vert).y0, .int .i64 (runR G x y vert).x1, .int .i64 (runR G x y vert).y1]) ∧ Below w.heap.size w w' := through_any g G x y vert w hG hx hy

/-- The run through a cell. -/
def rtV (rs : List Rc) (x y : Int) (vert : Bool) : Option Rc := if isReg rs = true ∧ hasG (cellsG rs) x y = true then some (runR (cellsG rs) x y vert) else none
theorem rtV_yes {rs : List Rc} {x y : Int} {vert : Bool} (h : isReg rs = true) (hc : hasG (cellsG rs) x y = true) : rtV rs x y vert = some (runR (cellsG rs) x y vert) := if_pos ⟨h, hc⟩
theorem rtV_no1 {rs : List Rc} {x y : Int} {vert : Bool} (h : isReg rs = false) : rtV rs x y vert = none := if_neg (by rw [h]; simp)
theorem rtV_no2 {rs : List Rc} {x y : Int} {vert : Bool} (h : hasG (cellsG rs) x y = false) : rtV rs x y vert = none := if_neg (by rw [h]; simp)

set_option maxHeartbeats 1600000 in
set_option maxRecDepth 100000 in
theorem rt_impl (v : Value) (rs : List Rc) (x y : Int) (vert : Bool) (w : World) (hv : RL w 0 v rs) : Calls Try.prog 36 #[v, .agg #[.int .i64 x, .int .i64 y], .bool vert] w fun e w' => e = .returned (.tuple #[.agg #[.int .i64 (witX (rtV rs x y vert)).x0, .int .i64 (witX (rtV rs x y vert)).y0, .int .i64 (witX (rtV rs x y vert)).x1, .int .i64 (witX (rtV rs x y vert)).y1], .bool (witB (rtV rs x y vert))]) ∧ Below w.heap.size w w' := by
  have zp := (Bk.new w 53 #[.int .i64 x, .int .i64 y]).alloc (.cells #[.int .i64 0, .int .i64 0, .int .i64 0, .int .i64 0] 32)
  have zr := Bk.new (w.alloc (.cells #[.int .i64 x, .int .i64 y] 53)) 32 #[.int .i64 0, .int .i64 0, .int .i64 0, .int .i64 0]
  have ez : (w.alloc (.cells #[.int .i64 x, .int .i64 y] 53)).heap.size = w.heap.size + 1 := by simp
  rw [ez] at zr
  clear ez
  have tw := ((Below.refl w.heap.size w).alloc (Nat.le_refl _) (.cells #[.int .i64 x, .int .i64 y] 53)).alloc (by simp) (.cells #[.int .i64 0, .int .i64 0, .int .i64 0, .int .i64 0] 32)
  have hvA := (hv.alloc (.cells #[.int .i64 x, .int .i64 y] 53)).alloc (.cells #[.int .i64 0, .int .i64 0, .int .i64 0, .int .i64 0] 32)
  clear hv
  have p0 := (box2 zp).1
  have p1 := (box2 zp).2
  by_cases h : isReg rs = true
  · by_cases hc : hasG (cellsG rs) x y = true
    · rw [rtV_yes h hc]
      have hin := hasG_in hc
      have hgo : (isReg rs && hasG (cellsG rs) x y) = true := by rw [h, hc]; rfl
      go_enter Try.func36, Try.ntmps36
      go_wp2_with fail
      refine (regionContains_any v rs x y _ hvA).mono ?_
      rintro e w1 ⟨rfl, hb1⟩
      replace hvA := hvA.on hb1
      replace zp := zp.on hb1
      replace zr := zr.on hb1
      replace tw := tw.trans (hb1.mono tw.size)
      obtain ⟨p0, p1⟩ := box2 zp
      rw [hgo]
      go_wp2
      replace zp := zp.drew
      replace zr := zr.drew
      replace tw := tw.drew
      replace hvA := hvA.on ((Below.refl _ _).drew)
      go_region_held3 (fun w' => w'.cell? ⟨w.heap.size, 0, none⟩ = some (.int .i64 x) ∧ w'.cell? ⟨w.heap.size, 1, none⟩ = some (.int .i64 y)) (first | exact box2 zp | exact box2 (((((zp.other (p := ⟨w.heap.size + 1, 0, none⟩) (Nat.ne_of_lt (Nat.lt_succ_self _)) _).other (p := ⟨w.heap.size + 1, 1, none⟩) (Nat.ne_of_lt (Nat.lt_succ_self _)) _).other (p := ⟨w.heap.size + 1, 2, none⟩) (Nat.ne_of_lt (Nat.lt_succ_self _)) _).other (p := ⟨w.heap.size + 1, 3, none⟩) (Nat.ne_of_lt (Nat.lt_succ_self _)) _)))
        (first | (go_at_call 84; refine (cellsOf_any v rs _ hvA).mono ?_; rintro e w5 ⟨g5, rfl, hg5, hG5, hb5⟩; have zp := zp.on hb5; have zr := zr.on hb5; have tw := tw.trans (hb5.mono tw.size))
               | (go_at_call 93; refine (through_ag _ _ _ _ _ _ hG5 ⟨hin.1, hin.2.1⟩ ⟨hin.2.2.1, hin.2.2.2⟩).mono ?_; rintro e w7 ⟨rfl, hb7⟩; have zp := zp.on hb7; have zr := zr.on hb7; have tw := tw.trans (hb7.mono tw.size); obtain ⟨e0, e1, e2, e3⟩ := box4 zr; have q0 := zr.frozen 0; have q1 := zr.frozen 1; have q2 := zr.frozen 2; have q3 := zr.frozen 3))
      go_wp2
      obtain ⟨s0, s1, s2, s3⟩ := set4of zr (.int .i64 (runR (cellsG rs) x y vert).x0) (.int .i64 (runR (cellsG rs) x y vert).y0) (.int .i64 (runR (cellsG rs) x y vert).x1) (.int .i64 (runR (cellsG rs) x y vert).y1)
      refine bodyPost_ret (v := .tuple #[.agg #[.int .i64 (runR (cellsG rs) x y vert).x0, .int .i64 (runR (cellsG rs) x y vert).y0, .int .i64 (runR (cellsG rs) x y vert).x1, .int .i64 (runR (cellsG rs) x y vert).y1], .bool true]) (by simp [results, Try.results36, go_sem, s0, s1, s2, s3]) rfl ⟨rfl, below4 tw (Nat.le_succ _) _ _ _ _⟩
    · have hc' : hasG (cellsG rs) x y = false := by simpa using hc
      clear hc
      rw [rtV_no2 hc']
      have hgo : (isReg rs && hasG (cellsG rs) x y) = false := by rw [hc']; simp
      go_enter Try.func36, Try.ntmps36
      go_wp2_with fail
      refine (regionContains_any v rs x y _ hvA).mono ?_
      rintro e w1 ⟨rfl, hb1⟩
      replace hvA := hvA.on hb1
      replace zp := zp.on hb1
      replace zr := zr.on hb1
      replace tw := tw.trans (hb1.mono tw.size)
      obtain ⟨p0, p1⟩ := box2 zp
      rw [hgo]
      obtain ⟨e0, e1, e2, e3⟩ := box4 zr
      have q0 := zr.frozen 0
      have q1 := zr.frozen 1
      have q2 := zr.frozen 2
      have q3 := zr.frozen 3
      go_wp2
      obtain ⟨s0, s1, s2, s3⟩ := set4of zr (.int .i64 0) (.int .i64 0) (.int .i64 0) (.int .i64 0)
      refine bodyPost_ret (v := .tuple #[.agg #[.int .i64 0, .int .i64 0, .int .i64 0, .int .i64 0], .bool false]) (by simp [results, Try.results36, go_sem, s0, s1, s2, s3]) rfl ⟨rfl, below4 tw (Nat.le_succ _) _ _ _ _⟩
  · have h' : isReg rs = false := by simpa using h
    clear h
    rw [rtV_no1 h']
    have hgo : (isReg rs && hasG (cellsG rs) x y) = false := by rw [h']; simp
    go_enter Try.func36, Try.ntmps36
    go_wp2_with fail
    refine (regionContains_any v rs x y _ hvA).mono ?_
    rintro e w1 ⟨rfl, hb1⟩
    replace hvA := hvA.on hb1
    replace zp := zp.on hb1
    replace zr := zr.on hb1
    replace tw := tw.trans (hb1.mono tw.size)
    obtain ⟨p0, p1⟩ := box2 zp
    rw [hgo]
    obtain ⟨e0, e1, e2, e3⟩ := box4 zr
    have q0 := zr.frozen 0
    have q1 := zr.frozen 1
    have q2 := zr.frozen 2
    have q3 := zr.frozen 3
    go_wp2
    obtain ⟨s0, s1, s2, s3⟩ := set4of zr (.int .i64 0) (.int .i64 0) (.int .i64 0) (.int .i64 0)
    refine bodyPost_ret (v := .tuple #[.agg #[.int .i64 0, .int .i64 0, .int .i64 0, .int .i64 0], .bool false]) (by simp [results, Try.results36, go_sem, s0, s1, s2, s3]) rfl ⟨rfl, below4 tw (Nat.le_succ _) _ _ _ _⟩

end Go.Proofs.Ytooglkdloaaomaa

namespace Go.Proofs.Ytooglkdloaaomaa
open Go.RowKit

/-- The gap through a cell. -/
def gtV (rs : List Rc) (x y : Int) (vert : Bool) : Option Rc := if isReg rs = true ∧ hasG (notG (cellsG rs)) x y = true then some (runR (notG (cellsG rs)) x y vert) else none
theorem gtV_yes {rs : List Rc} {x y : Int} {vert : Bool} (h : isReg rs = true) (hc : hasG (notG (cellsG rs)) x y = true) : gtV rs x y vert = some (runR (notG (cellsG rs)) x y vert) := if_pos ⟨h, hc⟩
theorem gtV_no1 {rs : List Rc} {x y : Int} {vert : Bool} (h : isReg rs = false) : gtV rs x y vert = none := if_neg (by rw [h]; simp)
theorem gtV_no2 {rs : List Rc} {x y : Int} {vert : Bool} (h : hasG (notG (cellsG rs)) x y = false) : gtV rs x y vert = none := if_neg (by rw [h]; simp)

set_option maxHeartbeats 1600000 in
set_option maxRecDepth 100000 in
theorem gt_impl (v : Value) (rs : List Rc) (x y : Int) (vert : Bool) (w : World) (hv : RL w 0 v rs) : Calls Try.prog 47 #[v, .agg #[.int .i64 x, .int .i64 y], .bool vert] w fun e w' => e = .returned (.tuple #[.agg #[.int .i64 (witX (gtV rs x y vert)).x0, .int .i64 (witX (gtV rs x y vert)).y0, .int .i64 (witX (gtV rs x y vert)).x1, .int .i64 (witX (gtV rs x y vert)).y1], .bool (witB (gtV rs x y vert))]) ∧ Below w.heap.size w w' := by
  have zp := (Bk.new w 53 #[.int .i64 x, .int .i64 y]).alloc (.cells #[.int .i64 0, .int .i64 0, .int .i64 0, .int .i64 0] 32)
  have zr := Bk.new (w.alloc (.cells #[.int .i64 x, .int .i64 y] 53)) 32 #[.int .i64 0, .int .i64 0, .int .i64 0, .int .i64 0]
  have ez : (w.alloc (.cells #[.int .i64 x, .int .i64 y] 53)).heap.size = w.heap.size + 1 := by simp
  rw [ez] at zr
  clear ez
  have tw := ((Below.refl w.heap.size w).alloc (Nat.le_refl _) (.cells #[.int .i64 x, .int .i64 y] 53)).alloc (by simp) (.cells #[.int .i64 0, .int .i64 0, .int .i64 0, .int .i64 0] 32)
  have hvA := (hv.alloc (.cells #[.int .i64 x, .int .i64 y] 53)).alloc (.cells #[.int .i64 0, .int .i64 0, .int .i64 0, .int .i64 0] 32)
  clear hv
  have p0 := (box2 zp).1
  have p1 := (box2 zp).2
  by_cases h : isReg rs = true
  · by_cases hon : onC x y = true
    · by_cases hc : hasG (notG (cellsG rs)) x y = true
      · rw [gtV_yes h hc]
        have hin := hasG_in hc
        go_enter Try.func47, Try.ntmps47
        go_wp2_with fail
        refine (isRegion_any v rs _ hvA).mono ?_
        rintro e w1 ⟨rfl, hb1⟩
        replace hvA := hvA.on hb1
        replace zp := zp.on hb1
        replace zr := zr.on hb1
        replace tw := tw.trans (hb1.mono tw.size)
        obtain ⟨p0, p1⟩ := box2 zp
        rw [h]
        go_wp2_with fail
        refine (isUnitCell_any x y _).mono ?_
        rintro e w2 ⟨rfl, hb2⟩
        replace hvA := hvA.on hb2
        replace zp := zp.on hb2
        replace zr := zr.on hb2
        replace tw := tw.trans (hb2.mono tw.size)
        obtain ⟨p0, p1⟩ := box2 zp
        rw [hon]
        go_wp2_with fail
        refine (cellsOf_any v rs _ hvA).mono ?_
        rintro e w3 ⟨g3, rfl, hg3, hG3, hb3⟩
        replace hvA := hvA.on hb3
        replace zp := zp.on hb3
        replace zr := zr.on hb3
        replace tw := tw.trans (hb3.mono tw.size)
        obtain ⟨p0, p1⟩ := box2 zp
        go_wp2_with fail
        refine (not_any _ _ _ hG3).mono ?_
        rintro e w4 ⟨g4, rfl, hg4, hG4, hb4⟩
        replace hvA := hvA.on hb4
        replace zp := zp.on hb4
        replace zr := zr.on hb4
        replace tw := tw.trans (hb4.mono tw.size)
        obtain ⟨p0, p1⟩ := box2 zp
        go_wp2_with fail
        refine (has_any _ _ _ _ _ hG4).mono ?_
        rintro e w5 ⟨rfl, hb5⟩
        replace hvA := hvA.on hb5
        replace zp := zp.on hb5
        replace zr := zr.on hb5
        replace tw := tw.trans (hb5.mono tw.size)
        obtain ⟨p0, p1⟩ := box2 zp
        rw [hc]
        go_wp2_with fail
        refine (through_ag _ _ x y vert _ (hG4.on hb5) ⟨hin.1, hin.2.1⟩ ⟨hin.2.2.1, hin.2.2.2⟩).mono ?_
        rintro e w6 ⟨rfl, hb6⟩
        replace hvA := hvA.on hb6
        replace zp := zp.on hb6
        replace zr := zr.on hb6
        replace tw := tw.trans (hb6.mono tw.size)
        obtain ⟨p0, p1⟩ := box2 zp
        obtain ⟨e0, e1, e2, e3⟩ := box4 zr
        have q0 := zr.frozen 0
        have q1 := zr.frozen 1
        have q2 := zr.frozen 2
        have q3 := zr.frozen 3
        go_wp2
        obtain ⟨s0, s1, s2, s3⟩ := set4of zr (.int .i64 (runR (notG (cellsG rs)) x y vert).x0) (.int .i64 (runR (notG (cellsG rs)) x y vert).y0) (.int .i64 (runR (notG (cellsG rs)) x y vert).x1) (.int .i64 (runR (notG (cellsG rs)) x y vert).y1)
        refine bodyPost_ret (v := .tuple #[.agg #[.int .i64 (runR (notG (cellsG rs)) x y vert).x0, .int .i64 (runR (notG (cellsG rs)) x y vert).y0, .int .i64 (runR (notG (cellsG rs)) x y vert).x1, .int .i64 (runR (notG (cellsG rs)) x y vert).y1], .bool true]) (by simp [results, Try.results47, go_sem, s0, s1, s2, s3]) rfl ⟨rfl, below4 tw (Nat.le_succ _) _ _ _ _⟩
      · have hc' : hasG (notG (cellsG rs)) x y = false := by simpa using hc
        clear hc
        rw [gtV_no2 hc']
        go_enter Try.func47, Try.ntmps47
        go_wp2_with fail
        refine (isRegion_any v rs _ hvA).mono ?_
        rintro e w1 ⟨rfl, hb1⟩
        replace hvA := hvA.on hb1
        replace zp := zp.on hb1
        replace zr := zr.on hb1
        replace tw := tw.trans (hb1.mono tw.size)
        obtain ⟨p0, p1⟩ := box2 zp
        rw [h]
        go_wp2_with fail
        refine (isUnitCell_any x y _).mono ?_
        rintro e w2 ⟨rfl, hb2⟩
        replace hvA := hvA.on hb2
        replace zp := zp.on hb2
        replace zr := zr.on hb2
        replace tw := tw.trans (hb2.mono tw.size)
        obtain ⟨p0, p1⟩ := box2 zp
        rw [hon]
        go_wp2_with fail
        refine (cellsOf_any v rs _ hvA).mono ?_
        rintro e w3 ⟨g3, rfl, hg3, hG3, hb3⟩
        replace hvA := hvA.on hb3
        replace zp := zp.on hb3
        replace zr := zr.on hb3
        replace tw := tw.trans (hb3.mono tw.size)
        obtain ⟨p0, p1⟩ := box2 zp
        go_wp2_with fail
        refine (not_any _ _ _ hG3).mono ?_
        rintro e w4 ⟨g4, rfl, hg4, hG4, hb4⟩
        replace hvA := hvA.on hb4
        replace zp := zp.on hb4
        replace zr := zr.on hb4
        replace tw := tw.trans (hb4.mono tw.size)
        obtain ⟨p0, p1⟩ := box2 zp
        go_wp2_with fail
        refine (has_any _ _ _ _ _ hG4).mono ?_
        rintro e w5 ⟨rfl, hb5⟩
        replace hvA := hvA.on hb5
        replace zp := zp.on hb5
        replace zr := zr.on hb5
        replace tw := tw.trans (hb5.mono tw.size)
        obtain ⟨p0, p1⟩ := box2 zp
        rw [hc']
        obtain ⟨e0, e1, e2, e3⟩ := box4 zr
        have q0 := zr.frozen 0
        have q1 := zr.frozen 1
        have q2 := zr.frozen 2
        have q3 := zr.frozen 3
        go_wp2
        obtain ⟨s0, s1, s2, s3⟩ := set4of zr (.int .i64 0) (.int .i64 0) (.int .i64 0) (.int .i64 0)
        refine bodyPost_ret (v := .tuple #[.agg #[.int .i64 0, .int .i64 0, .int .i64 0, .int .i64 0], .bool false]) (by simp [results, Try.results47, go_sem, s0, s1, s2, s3]) rfl ⟨rfl, below4 tw (Nat.le_succ _) _ _ _ _⟩
    · have hon' : onC x y = false := by simpa using hon
      clear hon
      rw [gtV_no2 (hasG_off hon')]
      go_enter Try.func47, Try.ntmps47
      go_wp2_with fail
      refine (isRegion_any v rs _ hvA).mono ?_
      rintro e w1 ⟨rfl, hb1⟩
      replace hvA := hvA.on hb1
      replace zp := zp.on hb1
      replace zr := zr.on hb1
      replace tw := tw.trans (hb1.mono tw.size)
      obtain ⟨p0, p1⟩ := box2 zp
      rw [h]
      go_wp2_with fail
      refine (isUnitCell_any x y _).mono ?_
      rintro e w2 ⟨rfl, hb2⟩
      replace hvA := hvA.on hb2
      replace zp := zp.on hb2
      replace zr := zr.on hb2
      replace tw := tw.trans (hb2.mono tw.size)
      obtain ⟨p0, p1⟩ := box2 zp
      rw [hon']
      obtain ⟨e0, e1, e2, e3⟩ := box4 zr
      have q0 := zr.frozen 0
      have q1 := zr.frozen 1
      have q2 := zr.frozen 2
      have q3 := zr.frozen 3
      go_wp2
      obtain ⟨s0, s1, s2, s3⟩ := set4of zr (.int .i64 0) (.int .i64 0) (.int .i64 0) (.int .i64 0)
      refine bodyPost_ret (v := .tuple #[.agg #[.int .i64 0, .int .i64 0, .int .i64 0, .int .i64 0], .bool false]) (by simp [results, Try.results47, go_sem, s0, s1, s2, s3]) rfl ⟨rfl, below4 tw (Nat.le_succ _) _ _ _ _⟩
  · have h' : isReg rs = false := by simpa using h
    clear h
    rw [gtV_no1 h']
    go_enter Try.func47, Try.ntmps47
    go_wp2_with fail
    refine (isRegion_any v rs _ hvA).mono ?_
    rintro e w1 ⟨rfl, hb1⟩
    replace hvA := hvA.on hb1
    replace zp := zp.on hb1
    replace zr := zr.on hb1
    replace tw := tw.trans (hb1.mono tw.size)
    obtain ⟨p0, p1⟩ := box2 zp
    rw [h']
    obtain ⟨e0, e1, e2, e3⟩ := box4 zr
    have q0 := zr.frozen 0
    have q1 := zr.frozen 1
    have q2 := zr.frozen 2
    have q3 := zr.frozen 3
    go_wp2
    obtain ⟨s0, s1, s2, s3⟩ := set4of zr (.int .i64 0) (.int .i64 0) (.int .i64 0) (.int .i64 0)
    refine bodyPost_ret (v := .tuple #[.agg #[.int .i64 0, .int .i64 0, .int .i64 0, .int .i64 0], .bool false]) (by simp [results, Try.results47, go_sem, s0, s1, s2, s3]) rfl ⟨rfl, below4 tw (Nat.le_succ _) _ _ _ _⟩

end Go.Proofs.Ytooglkdloaaomaa
