/- Contracts: what the law FnDensity draws; the area of a region, in the reference. No conditions. -/
import Derived.Test.YtooglkdloaaomaaDrawK
import Derived.Test.YtooglkdloaaomaaMathA
import Derived.Test.YtooglkdloaaomaaSets
namespace Go.Proofs.Ytooglkdloaaomaa
open Go.RowKit

abbrev sidesA : Array Value := #[.int .i64 3, .int .i64 4, .int .i64 5, .int .i64 7, .int .i64 8, .int .i64 10, .int .i64 16, .int .i64 20, .int .i64 30, .int .i64 40, .int .i64 41]
abbrev percA : Array Value := #[.int .i64 0, .int .i64 1, .int .i64 2, .int .i64 10, .int .i64 25, .int .i64 50, .int .i64 75, .int .i64 100, .int .i64 101]
theorem sides_get (k : Nat) (h : k < 11) : ∃ x : Int, sidesA[k]? = some (.int .i64 x) ∧ 3 ≤ x ∧ x ≤ 41 := by
  have hk : k = 0 ∨ k = 1 ∨ k = 2 ∨ k = 3 ∨ k = 4 ∨ k = 5 ∨ k = 6 ∨ k = 7 ∨ k = 8 ∨ k = 9 ∨ k = 10 := by omega
  rcases hk with rfl | rfl | rfl | rfl | rfl | rfl | rfl | rfl | rfl | rfl | rfl <;> exact ⟨_, rfl, by omega, by omega⟩
theorem perc_get (k : Nat) (h : k < 9) : ∃ x : Int, percA[k]? = some (.int .i64 x) ∧ 0 ≤ x ∧ x ≤ 101 := by
  have hk : k = 0 ∨ k = 1 ∨ k = 2 ∨ k = 3 ∨ k = 4 ∨ k = 5 ∨ k = 6 ∨ k = 7 ∨ k = 8 := by omega
  rcases hk with rfl | rfl | rfl | rfl | rfl | rfl | rfl | rfl | rfl <;> exact ⟨_, rfl, by omega, by omega⟩

set_option maxHeartbeats 1600000 in
set_option maxRecDepth 100000 in
theorem drawDens_any (A : Option Addr) (n c : Nat) (w : World) (hA : ArgB w A n) (hn : n ≤ 4096) : Calls Try.prog 16 #[.slice A n c] w fun e w' => ∃ (v : Value) (rs : List Rc) (s p : Int), e = .returned (.tuple #[v, .int .i64 s, .int .i64 p]) ∧ RL w' w.heap.size v rs ∧ rs.length ≤ 8000 ∧ (3 ≤ s ∧ s ≤ 41) ∧ (0 ≤ p ∧ p ≤ 101) ∧ Below w.heap.size w w' := by
  go_enter Try.func16, Try.ntmps16
  go_wp2_with fail
  refine (from_any A n c _ hA hn).mono ?_
  rintro e w1 ⟨g, rfl, hg, hD, hb1⟩
  go_wp2_with fail
  refine (drawAny_any g _ hD).mono ?_
  rintro e w2 ⟨v, rs, rfl, hR, hl, hD2, hG2⟩
  have hb2 := hb1.trans (grown_below hG2 (fun q hq => by simp at hq; omega) hb1.size)
  have hs1 := hb1.size
  have hgl := hD.lt
  have z3 := Bk.new w2 2 sidesA
  have hD3 := hD2.alloc (.cells sidesA 2)
  have hs2 := hb2.size
  have hb3 := hb2.alloc hb2.size (.cells sidesA 2)
  have hR3 := RL.alloc hR (.cells sidesA 2)
  have hg2 := hD2.lt
  clear hD hb1 hG2 hb2 hR hD2
  go_wp2_with fail
  refine (next_any g 11 _ hD3 (by omega)).mono ?_
  rintro e w4 ⟨k4, rfl, hk4, hD4, hG4⟩
  obtain ⟨m, rfl⟩ : ∃ m : Nat, k4 = m := ⟨k4.toNat, by omega⟩
  obtain ⟨s, hs, hs3, hs4⟩ := sides_get m (by omega)
  have c4 := ((z3.grown hG4 (show some w2.heap.size ≠ some g by simp; omega)).cell m).trans hs
  have hm0 : (0 : Int) ≤ (m : Int) ∧ (m : Int) < 11 := by omega
  have hR4 := hR3.keptG hG4 hgl
  have hb4 := hb3.trans (grown_below hG4 (fun q hq => by simp at hq; omega) hb3.size)
  have hg4 := hD4.lt
  have hs5 := hb4.size
  clear z3 hD3 hb3 hR3 hs hk4
  have hDa := (hD4.alloc (.cells percA 2)).drew
  have zA := (Bk.new w4 2 percA).drew
  have hDb := hD4.drew
  have hRa : RL (w4.alloc (.cells percA 2)).drew w1.heap.size v rs := RL.alloc hR4 _
  have hRb : RL w4.drew w1.heap.size v rs := hR4
  have hba := (hb4.alloc hs5 (.cells percA 2)).drew
  have hbb := hb4.drew
  clear hD4 hR4
  go_wp2
  go_region_with
    (first
      | (go_at_call 70; (refine (next_any g 9 _ hDa (by omega)).mono ?_; rintro e w5 ⟨k5, rfl, hk5, hD5, hG5⟩; obtain ⟨q, rfl⟩ : ∃ q : Nat, k5 = q := ⟨k5.toNat, by omega⟩; obtain ⟨x, hx, hx1, hx2⟩ := perc_get q (by omega); have c5 := ((zA.grown hG5 (fun h => by injection h with h; omega)).cell q).trans hx; have hq0 : (0 : Int) ≤ (q : Int) ∧ (q : Int) < 9 := (by omega); have hR5 := (hRa.keptG hG5 hgl).less hs1; have hb5 := hba.trans (grown_below hG5 (fun i hi => by injection hi with hi; omega) hba.size)))
      | (go_at_call 70; refine (next_any g 9 _ hDb (by omega)).mono ?_; rintro e w5 ⟨k5, rfl, hk5, hD5, hG5⟩; obtain ⟨q, rfl⟩ : ∃ q : Nat, k5 = q := ⟨k5.toNat, by omega⟩; obtain ⟨x, hx, hx1, hx2⟩ := perc_get q (by omega); have c5 := ((Bk.new w5 2 percA).cell q).trans hx; have hq0 : (0 : Int) ≤ (q : Int) ∧ (q : Int) < 9 := (by omega); have hR5 := ((hRb.keptG hG5 hgl).less hs1).alloc (.cells percA 2); have hbq := hbb.trans (grown_below hG5 (fun i hi => by injection hi with hi; omega) hbb.size); have hb5 := hbq.alloc hbq.size (.cells percA 2)))
  all_goals
    go_wp2
    refine bodyPost_ret (results_tmp3 rfl _ _ _) rfl ?_
    exact ⟨_, _, _, _, rfl, hR5, hl, ⟨hs3, hs4⟩, ⟨hx1, hx2⟩, hb5⟩

set_option maxHeartbeats 400000 in
set_option maxRecDepth 100000 in
/-- l03Count. -/
theorem l03Count_any (v : Value) (G : Gr) (w : World) (hG : GS w 0 v G) : Calls Try.prog 80 #[v] w fun e w' => e = .returned (.int .i64 (countG G)) ∧ w = w' := by
  obtain ⟨g, c, rfl, -, hg⟩ := hG
  have Hall := Lib.hid (flatC_all G)
  go_enter Try.func80, Try.ntmps80
  go_wp2
  go_loop [3, 4] (fun nv iv => ∃ i : Nat, i ≤ 6400 ∧ iv = .int .i64 i ∧ nv = .int .i64 (flatC G i)) (fun _ iv => 6400 - (intOf iv).toNat)
  case atStart => exact ⟨0, by omega, rfl, rfl⟩
  case round =>
    obtain ⟨i, hi, rfl, rfl⟩ := hrel
    by_cases hlt : i < 6400
    · have cx := hg.cell hlt
      have hbd := flatC_bounds G i
      by_cases hb : G i = true
      · have He := Lib.hid (flatC_yes hb)
        rw [hb] at cx
        clear hb
        go_wp2
        exact ⟨⟨i + 1, by omega, by go_num, by rw [He.out]⟩, by simp [intOf]; omega⟩
      · have hb' : G i = false := by simpa using hb
        have He := Lib.hid (flatC_no hb')
        rw [hb'] at cx
        clear hb hb'
        go_wp2
        exact ⟨⟨i + 1, by omega, by go_num, by rw [He.out]⟩, by simp [intOf]; omega⟩
    · have hie : i = 6400 := by omega
      subst hie
      go_wp2
      go_ret
      exact ⟨ret_intS Hall.out, rfl⟩
set_option maxHeartbeats 400000 in
/-- RegionArea of a region, in the reference. -/
theorem regArea_spec (v : Value) (rs : List Rc) (w : World) (hv : RL w 0 v rs) (h : isReg rs = true) : Calls Try.prog 22 #[v] w fun e w' => e = .returned (.int .i64 (countG (cellsG rs))) ∧ Below w.heap.size w w' := by
  go_enter Try.func22, Try.ntmps22
  go_wp2_with fail
  refine (l03Ok_any v rs _ hv).mono ?_
  rintro e w1 ⟨rfl, hb1⟩
  rw [h]
  go_wp2_with fail
  refine (l03Bits_any v rs _ (hv.on hb1) (okAll_of_reg h)).mono ?_
  rintro e w2 ⟨u, rfl, hG, hb2⟩
  go_wp2_with fail
  refine (l03Count_any u _ _ (hG.less (Nat.zero_le _))).mono ?_
  rintro e w3 ⟨rfl, rfl⟩
  go_wp2
  go_ret
  exact ⟨rfl, hb1.trans (hb2.mono hb1.size)⟩

end Go.Proofs.Ytooglkdloaaomaa
