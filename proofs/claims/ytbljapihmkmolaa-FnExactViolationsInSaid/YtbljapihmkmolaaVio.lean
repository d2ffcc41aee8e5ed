/- Contracts: one violation: szViolation, toViolation, eqViolation. Condition: a well-formed argument. -/
import Derived.Test.YtbljapihmkmolaaTo
import Derived.Test.YtbljapihmkmolaaCmp
namespace Go.Proofs.Ytbljapihmkmolaa
open Go.RowKit

/-- szViolation: there is room. -/
theorem szVio_yes (r : Int) (A : Option Addr) (n c : Nat) (left : Int) (w : World) (h0 : (n : Int) ≤ left) (h1 : left ≤ 1048576) :
    Calls Try.prog 9 #[.agg #[.int .i64 r, .slice A n c], .int .i64 left] w fun e w' => e = .returned (.int .i64 (left - n)) ∧ Below w.heap.size w w' := by
  have h2 : ¬ (left - n < 0) := by omega
  go_enter Try.func9, Try.ntmps9
  go_wp2_with fail
  refine (szRectS_yes A n c left _ h0 h1).mono ?_
  rintro e w1 ⟨rfl, rfl⟩
  go_wp2
  go_ret
  exact ⟨rfl, (Below.refl _ _).alloc (Nat.le_refl _) _⟩
/-- .. there is none. -/
theorem szVio_no (r : Int) (A : Option Addr) (n c : Nat) (left : Int) (w : World) (h0 : left < (n : Int)) (h1 : 0 ≤ left) (hn : n ≤ maxLen) :
    Calls Try.prog 9 #[.agg #[.int .i64 r, .slice A n c], .int .i64 left] w fun e w' => e = .returned (.int .i64 (-1)) ∧ Below w.heap.size w w' := by
  go_enter Try.func9, Try.ntmps9
  go_wp2_with fail
  refine (szRectS_no A n c left _ h0 h1 hn).mono ?_
  rintro e w1 ⟨rfl, rfl⟩
  go_wp2
  go_ret
  exact ⟨rfl, (Below.refl _ _).alloc (Nat.le_refl _) _⟩

set_option maxHeartbeats 800000 in
/-- toViolation. -/
theorem toVio_any (r : Int) (A : Option Addr) (n c : Nat) (rs : List Rc) (w : World) (hA : ArgR w A n rs) (hn : n ≤ 1048576) :
    Calls Try.prog 11 #[.agg #[.int .i64 r, .slice A n c]] w fun e w' => ∃ u, e = .returned (.agg #[.int .i64 r, u]) ∧ RL w' w.heap.size u rs ∧ Below w.heap.size w w' := by
  go_enter Try.func11, Try.ntmps11
  go_wp2_with fail
  have z1 := Bk.new w 24 #[.int .i64 r, .slice A n c]
  have z2 := z1.alloc (.cells #[.int .i64 0, .slice none 0 0] 29)
  have z3 := z2.alloc (.cells #[.int .i64 r, .slice none 0 0] 29)
  have y1 := Bk.new (w.alloc (.cells #[.int .i64 r, .slice A n c] 24)) 29 #[.int .i64 0, .slice none 0 0]
  have y2 := y1.alloc (.cells #[.int .i64 r, .slice none 0 0] 29)
  have x2 := Bk.new ((w.alloc (.cells #[.int .i64 r, .slice A n c] 24)).alloc (.cells #[.int .i64 0, .slice none 0 0] 29)) 29 #[.int .i64 r, .slice none 0 0]
  have hb := (((Below.refl w.heap.size w).alloc (Nat.le_refl _) (.cells #[.int .i64 r, .slice A n c] 24)).alloc (by simp) (.cells #[.int .i64 0, .slice none 0 0] 29)).alloc (by simp; omega) (.cells #[.int .i64 r, .slice none 0 0] 29)
  have e1 : (w.alloc (.cells #[.int .i64 r, .slice A n c] 24)).heap.size = w.heap.size + 1 := by simp
  have e2 : ((w.alloc (.cells #[.int .i64 r, .slice A n c] 24)).alloc (.cells #[.int .i64 0, .slice none 0 0] 29)).heap.size = w.heap.size + 1 + 1 := by simp
  rw [e1] at y2
  rw [e2] at x2
  refine (toRectS_any A n c rs _ (hA.on hb) hn).mono ?_
  clear z1 z2 z3 y1 e1 e2
  revert y2 x2 hb
  generalize ((w.alloc (.cells #[.int .i64 r, .slice A n c] 24)).alloc (.cells #[.int .i64 0, .slice none 0 0] 29)).alloc (.cells #[.int .i64 r, .slice none 0 0] 29) = w1
  intro y2 x2 hb
  rintro e w2 ⟨u, rfl, hU, hb2⟩
  have y3 := y2.on hb2
  have x3 := x2.on hb2
  have hwl := x2.lt
  have hb3 := hb.trans (hb2.mono hb.size)
  obtain ⟨A', c', rfl, hc', hm', -⟩ := hU.form
  have f2 := x3.frozen 1
  obtain ⟨d0, d1⟩ := box2 x3
  have x4 : Bk (w2.setCell ⟨w.heap.size + 1 + 1, 1, none⟩ (.slice A' rs.length c')) (w.heap.size + 1 + 1) 29 #[.int .i64 r, .slice A' rs.length c'] := x3.store 1 _
  have y4 := y3.other (p := ⟨w.heap.size + 1 + 1, 1, none⟩) (show w.heap.size + 1 ≠ w.heap.size + 1 + 1 by omega) (.slice A' rs.length c')
  obtain ⟨c0, c1⟩ := box2 y4
  obtain ⟨p0, p1⟩ := box2 x4
  have f0 := y4.frozen 0
  have f1 := y4.frozen 1
  have hR : RL (((w2.setCell ⟨w.heap.size + 1 + 1, 1, none⟩ (.slice A' rs.length c')).setCell ⟨w.heap.size + 1, 0, none⟩ (.int .i64 r)).setCell ⟨w.heap.size + 1, 1, none⟩ (.slice A' rs.length c')) w.heap.size (.slice A' rs.length c') rs := by
    have hne : ∀ b j x wz, b < w1.heap.size → RL wz w1.heap.size (.slice A' rs.length c') rs → RL (wz.setCell ⟨b, j, none⟩ x) w1.heap.size (.slice A' rs.length c') rs := fun b j x wz hb h => h.keptG (only_store (only_refl wz (some b)) j x) hb
    exact (hne _ _ _ _ (by omega) (hne _ _ _ _ (by omega) (hne _ _ _ _ (by omega) hU))).less (by omega)
  have hB := ((hb3.setCell (p := ⟨w.heap.size + 1 + 1, 1, none⟩) (by show w.heap.size ≤ w.heap.size + 1 + 1; omega) (.slice A' rs.length c')).setCell (p := ⟨w.heap.size + 1, 0, none⟩) (by show w.heap.size ≤ w.heap.size + 1; omega) (.int .i64 r)).setCell (p := ⟨w.heap.size + 1, 1, none⟩) (by show w.heap.size ≤ w.heap.size + 1; omega) (.slice A' rs.length c')
  clear y2 x2 hb hb2 y3 x3 x4 y4 hb3
  go_wp2
  refine bodyPost_ret (v := .agg #[.int .i64 r, .slice A' rs.length c']) (by simp [results, Try.results11, go_sem, *]) rfl ?_
  exact ⟨_, rfl, hR, hB⟩

set_option maxHeartbeats 800000 in
/-- eqViolation, of equal ones. -/
theorem eqVio_same (r : Int) (v u : Value) (rs : List Rc) (w : World) (hv : RL w 0 v rs) (hu : RL w 0 u rs) :
    Calls Try.prog 13 #[.agg #[.int .i64 r, v], .agg #[.int .i64 r, u]] w fun e w' => e = .returned (.bool true) ∧ Below w.heap.size w w' := by
  go_enter Try.func13, Try.ntmps13
  go_wp2_with fail
  refine (eqRectS_same v u rs _ (RL.alloc (RL.alloc hv _) _) (RL.alloc (RL.alloc hu _) _)).mono ?_
  rintro e w1 ⟨rfl, hb⟩
  go_wp2
  go_ret
  have hb0 := ((Below.refl w.heap.size w).alloc (Nat.le_refl _) (.cells #[.int .i64 r, v] 29)).alloc (by simp) (.cells #[.int .i64 r, u] 29)
  exact ⟨rfl, hb0.trans (hb.mono hb0.size)⟩

end Go.Proofs.Ytbljapihmkmolaa
