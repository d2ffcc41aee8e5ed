/- Contracts: the reference's l17Run. Condition: the cell lies on the chip. -/
import Derived.Test.YthifinolgbjekaaOk
namespace Go.Proofs.Ythifinolgbjekaa
open Go.RowKit

theorem GS.alloc {w : World} {B : Nat} {v : Value} {G : Gr} (h : GS w B v G) (o : Obj) : GS (w.alloc o) B v G := h.on ((Below.refl _ _).alloc (Nat.le_refl _) o)

set_option maxHeartbeats 400000 in
set_option maxRecDepth 100000 in
theorem l17Run_v (v : Value) (G : Gr) (x y : Int) (w : World) (hG : GS w 0 v G) (hx : -40 ≤ x ∧ x ≤ 39) (hy : -40 ≤ y ∧ y ≤ 39) :
    Calls Try.prog 116 #[v, .int .i64 x, .int .i64 y, .bool true] w fun e w' => e = .returned (.agg #[.int .i64 x, .int .i64 (lowOf (fun t => hasG G x t) y), .int .i64 (x + 1), .int .i64 (highOf (fun t => hasG G x t) (y + 1))]) ∧ Below w.heap.size w w' := by
  have hG1 := hG.alloc (.cells #[.int .i64 0, .int .i64 0, .int .i64 0, .int .i64 0] 37)
  go_enter Try.func116, Try.ntmps116
  go_wp2
  go_loop [9] (fun lv => ∃ l : Int, -40 ≤ l ∧ l ≤ y ∧ lv = .int .i64 l ∧ Hid (lowOf (fun t => hasG G x t) y = lowOf (fun t => hasG G x t) l)) (fun lv => (intOf lv + 41).toNat)
  case atStart => exact ⟨y, by omega, by omega, rfl, Lib.hid rfl⟩
  case round =>
    obtain ⟨l, hl0, hl1, rfl, hlow⟩ := hrel
    by_cases hp : hasG G x (l - 1) = true
    · have hin := hasG_in hp
      go_wp2_with (go_at_call 105; refine (l17Cell_any v G _ _ _ hG1).mono ?_; rintro e w1 ⟨rfl, rfl⟩)
      refine ⟨⟨l - 1, by omega, by omega, rfl, Lib.hid ?_⟩, by simp [intOf]; omega⟩
      rw [← lowOf_step (p := fun t => hasG G x t) hp (by omega)]
      exact hlow.out
    · have hp' : hasG G x (l - 1) = false := by simpa using hp
      clear hp
      go_wp2_with (go_at_call 105; refine (l17Cell_any v G _ _ _ hG1).mono ?_; rintro e w1 ⟨rfl, rfl⟩)
      have Hlow := Lib.hid (hlow.out.trans (lowOf_stop (p := fun t => hasG G x t) hp'))
      clear hlow hp'
      go_loop [10] (fun hv => ∃ h : Int, y + 1 ≤ h ∧ h ≤ 40 ∧ hv = .int .i64 h ∧ Hid (highOf (fun t => hasG G x t) (y + 1) = highOf (fun t => hasG G x t) h)) (fun hv => (41 - intOf hv).toNat)
      case atStart => exact ⟨y + 1, by omega, by omega, rfl, Lib.hid rfl⟩
      case round =>
        obtain ⟨h, hh0, hh1, rfl, hhigh⟩ := hrel
        by_cases hp : hasG G x h = true
        · have hin := hasG_in hp
          go_wp2_with (go_at_call 105; refine (l17Cell_any v G _ _ _ hG1).mono ?_; rintro e w1 ⟨rfl, rfl⟩)
          refine ⟨⟨h + 1, by omega, by omega, rfl, Lib.hid ?_⟩, by simp [intOf]; omega⟩
          rw [← highOf_step (p := fun t => hasG G x t) hp (by omega)]
          exact hhigh.out
        · have hp' : hasG G x h = false := by simpa using hp
          clear hp
          go_wp2_with (go_at_call 105; refine (l17Cell_any v G _ _ _ hG1).mono ?_; rintro e w1 ⟨rfl, rfl⟩)
          have Hhigh := Lib.hid (hhigh.out.trans (highOf_stop (p := fun t => hasG G x t) hp'))
          refine bodyPost_ret (v := .agg #[.int .i64 x, .int .i64 l, .int .i64 (x + 1), .int .i64 h]) (by simp [results, Try.results116, go_sem]) rfl ?_
          rw [Hlow.out, Hhigh.out]
          exact ⟨rfl, (Below.refl _ _).alloc (Nat.le_refl _) _⟩

set_option maxHeartbeats 400000 in
set_option maxRecDepth 100000 in
theorem l17Run_h (v : Value) (G : Gr) (x y : Int) (w : World) (hG : GS w 0 v G) (hx : -40 ≤ x ∧ x ≤ 39) (hy : -40 ≤ y ∧ y ≤ 39) :
    Calls Try.prog 116 #[v, .int .i64 x, .int .i64 y, .bool false] w fun e w' => e = .returned (.agg #[.int .i64 (lowOf (fun t => hasG G t y) x), .int .i64 y, .int .i64 (highOf (fun t => hasG G t y) (x + 1)), .int .i64 (y + 1)]) ∧ Below w.heap.size w w' := by
  have hG1 := hG.alloc (.cells #[.int .i64 0, .int .i64 0, .int .i64 0, .int .i64 0] 37)
  go_enter Try.func116, Try.ntmps116
  go_wp2
  go_loop [9] (fun lv => ∃ l : Int, -40 ≤ l ∧ l ≤ x ∧ lv = .int .i64 l ∧ Hid (lowOf (fun t => hasG G t y) x = lowOf (fun t => hasG G t y) l)) (fun lv => (intOf lv + 41).toNat)
  case atStart => exact ⟨x, by omega, by omega, rfl, Lib.hid rfl⟩
  case round =>
    obtain ⟨l, hl0, hl1, rfl, hlow⟩ := hrel
    by_cases hp : hasG G (l - 1) y = true
    · have hin := hasG_in hp
      go_wp2_with (go_at_call 105; refine (l17Cell_any v G _ _ _ hG1).mono ?_; rintro e w1 ⟨rfl, rfl⟩)
      refine ⟨⟨l - 1, by omega, by omega, rfl, Lib.hid ?_⟩, by simp [intOf]; omega⟩
      rw [← lowOf_step (p := fun t => hasG G t y) hp (by omega)]
      exact hlow.out
    · have hp' : hasG G (l - 1) y = false := by simpa using hp
      clear hp
      go_wp2_with (go_at_call 105; refine (l17Cell_any v G _ _ _ hG1).mono ?_; rintro e w1 ⟨rfl, rfl⟩)
      have Hlow := Lib.hid (hlow.out.trans (lowOf_stop (p := fun t => hasG G t y) hp'))
      clear hlow hp'
      go_loop [10] (fun hv => ∃ h : Int, x + 1 ≤ h ∧ h ≤ 40 ∧ hv = .int .i64 h ∧ Hid (highOf (fun t => hasG G t y) (x + 1) = highOf (fun t => hasG G t y) h)) (fun hv => (41 - intOf hv).toNat)
      case atStart => exact ⟨x + 1, by omega, by omega, rfl, Lib.hid rfl⟩
      case round =>
        obtain ⟨h, hh0, hh1, rfl, hhigh⟩ := hrel
        by_cases hp : hasG G h y = true
        · have hin := hasG_in hp
          go_wp2_with (go_at_call 105; refine (l17Cell_any v G _ _ _ hG1).mono ?_; rintro e w1 ⟨rfl, rfl⟩)
          refine ⟨⟨h + 1, by omega, by omega, rfl, Lib.hid ?_⟩, by simp [intOf]; omega⟩
          rw [← highOf_step (p := fun t => hasG G t y) hp (by omega)]
          exact hhigh.out
        · have hp' : hasG G h y = false := by simpa using hp
          clear hp
          go_wp2_with (go_at_call 105; refine (l17Cell_any v G _ _ _ hG1).mono ?_; rintro e w1 ⟨rfl, rfl⟩)
          have Hhigh := Lib.hid (hhigh.out.trans (highOf_stop (p := fun t => hasG G t y) hp'))
          refine bodyPost_ret (v := .agg #[.int .i64 l, .int .i64 y, .int .i64 h, .int .i64 (y + 1)]) (by simp [results, Try.results116, go_sem]) rfl ?_
          rw [Hlow.out, Hhigh.out]
          exact ⟨rfl, (Below.refl _ _).alloc (Nat.le_refl _) _⟩

/-- l17Run. -/
theorem l17Run_any (v : Value) (G : Gr) (x y : Int) (vert : Bool) (w : World) (hG : GS w 0 v G) (hx : -40 ≤ x ∧ x ≤ 39) (hy : -40 ≤ y ∧ y ≤ 39) :
    Calls Try.prog 116 #[v, .int .i64 x, .int .i64 y, .bool vert] w fun e w' => e = .returned (runR G x y vert).val ∧ Below w.heap.size w w' := by
  cases vert
  · exact l17Run_h v G x y w hG hx hy
  · exact l17Run_v v G x y w hG hx hy

end Go.Proofs.Ythifinolgbjekaa
