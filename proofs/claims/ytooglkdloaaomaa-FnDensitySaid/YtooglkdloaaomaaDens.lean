/- The windows of a side: the program's DensityWindows and the reference's return the same list. No conditions. -/
import Derived.Test.YtooglkdloaaomaaScal
import Derived.Test.YtooglkdloaaomaaLoop
namespace Go.Proofs.Ytooglkdloaaomaa
open Go.RowKit

set_option maxHeartbeats 400000 in
theorem dens_impl (s : Int) (h1 : 4 ≤ s) (h2 : s ≤ 40) (w : World) : Calls Try.prog 18 #[.int .i64 s] w fun e w' => ∃ v, e = .returned v ∧ RL w' w.heap.size v (winY s (-40)) ∧ Below w.heap.size w w' := by
  have hin : inB 4 s 40 = true := (inB_iff _ _ _).2 ⟨h1, h2⟩
  have Hlen := Lib.hid (winY_length s)
  have hown0 : RL (w.alloc (.cells #[] 32)) w.heap.size (.slice (some ⟨w.heap.size, 0, none⟩) 0 0) [] := World.ownsRow_lit w #[] 0 (Nat.le_refl _) (by simp [maxLen]) rfl
  have hb0 : Below w.heap.size w (w.alloc (.cells #[] 32)) := (Below.refl _ _).alloc (Nat.le_refl _) _
  go_enter Try.func18, Try.ntmps18
  go_wp2_with (go_at_call 72; refine (within_any _ _ _ _).mono ?_; rintro e w' ⟨rfl, rfl⟩)
  clear hin
  go_loopw [3, 4] (fun out yv wr => ∃ (y : Int) (rs : List Rc), -40 ≤ y ∧ y ≤ 80 ∧ yv = .int .i64 y ∧ RL wr w.heap.size out rs ∧ Hid (rs ++ winY s y = winY s (-40)) ∧ Below w.heap.size w wr) (fun _ yv _ => (40 - intOf yv).toNat)
  case atStart => exact ⟨-40, [], by omega, by omega, rfl, hown0, Lib.hid rfl, hb0⟩
  case round =>
    obtain ⟨y, rs, hy0, hy1, rfl, hown, hrs, hb⟩ := hrel
    clear hown0 hb0
    by_cases hy : y < 40
    · go_wp2
      go_loopw [3, 5] (fun out xv wi => ∃ (x : Int) (qs : List Rc), -40 ≤ x ∧ x ≤ 80 ∧ xv = .int .i64 x ∧ RL wi w.heap.size out qs ∧ Hid (qs ++ (winX s y x ++ winY s (y + s)) = winY s (-40)) ∧ Below w.heap.size w wi) (fun _ xv _ => (40 - intOf xv).toNat)
      case atStart => exact ⟨-40, rs, by omega, by omega, rfl, hown, Lib.hid (by rw [← winY_step s y (by omega) hy]; exact hrs.out), hb⟩
      case round =>
        obtain ⟨x, qs, hx0, hx1, rfl, hown', hqs, hb'⟩ := hrel
        have hl : qs.length ≤ 1000000 := Nat.le_trans (part_len hqs.out Hlen.out) (by omega)
        have hB := hb'.size
        by_cases hx : x < 40
        · go_wp2_with (at_builtin; refine wpList_append_R rfl (.tmp 20) (.tmp 32) rfl w.heap.size _ qs rfl hown' _ _ _ _ rfl hl hB ?_)
          all_goals
            intro v1 w1 ho1 hg1 hb1
            go_wp2
            refine ⟨⟨x + s, _, by omega, by omega, rfl, ho1, Lib.hid ?_, hb'.trans hb1⟩, by simp [intOf]; omega⟩
            rw [← hqs.out, winX_step' (by omega) hx ?_ ?_, List.append_assoc, List.append_assoc]
            all_goals omega
        · go_wp2
          refine ⟨⟨y + s, qs, by omega, by omega, rfl, hown', Lib.hid ?_, hb'⟩, by simp [intOf]; omega⟩
          rw [← hqs.out, winX_stop s y x (by omega), List.nil_append]
    · go_wp2
      go_ret
      refine ⟨_, rfl, ?_, hb⟩
      rw [← hrs.out, winY_stop s y (by omega), List.append_nil]
      exact hown

theorem dens_impl_no (s : Int) (h : ¬ (4 ≤ s ∧ s ≤ 40)) (w : World) : Calls Try.prog 18 #[.int .i64 s] w fun e w' => ∃ v, e = .returned v ∧ RL w' w.heap.size v [] ∧ Below w.heap.size w w' := by
  have hin : inB 4 s 40 = false := (inB_no _ _ _).2 h
  go_enter Try.func18, Try.ntmps18
  go_wp2_with (go_at_call 72; refine (within_any _ _ _ _).mono ?_; rintro e w' ⟨rfl, rfl⟩)
  go_ret
  exact ⟨_, rfl, RL.nil _ _, Below.refl _ _⟩

/-- The program's DensityWindows. -/
theorem dens_impl_any (s : Int) (w : World) : Calls Try.prog 18 #[.int .i64 s] w fun e w' => ∃ v, e = .returned v ∧ RL w' w.heap.size v (wins s) ∧ Below w.heap.size w w' := by
  by_cases h : 4 ≤ s ∧ s ≤ 40
  · unfold wins
    rw [if_pos h]
    exact dens_impl s h.1 h.2 w
  · unfold wins
    rw [if_neg h]
    exact dens_impl_no s h w

end Go.Proofs.Ytooglkdloaaomaa
