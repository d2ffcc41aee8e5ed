/- Contract: DrawRecheckArea. No conditions. -/
import Derived.Test.YtbljapihmkmolaaGreatDrawV
namespace Go.Proofs.YtbljapihmkmolaaGreat
open Go.RowKit

set_option maxHeartbeats 3200000 in
set_option maxRecDepth 100000 in
/-- DrawRecheckArea. -/
theorem drawRecheck_any (A : Option Addr) (n c : Nat) (w : World) (hA : ArgB w A n) (hn : n ≤ 4096) : Calls Tryz.prog 42 #[.slice A n c] w fun e w' => ∃ (v z : Value) (r : Ru), e = .returned (.tuple #[v, z, r.val]) ∧ LayOk w' 0 v ∧ Below w.heap.size w w' := by
  have z0 := Bk.new w 30 #[.int .i64 0, .int .i64 0, .int .i64 0, .int .i64 0, .int .i64 0]
  have hb0 := (Below.refl w.heap.size w).alloc (Nat.le_refl _) (.cells #[.int .i64 0, .int .i64 0, .int .i64 0, .int .i64 0, .int .i64 0] 30)
  have hA0 := hA.on hb0
  have es : (w.alloc (.cells #[.int .i64 0, .int .i64 0, .int .i64 0, .int .i64 0, .int .i64 0] 30)).heap.size = w.heap.size + 1 := by simp
  unfold Ru.val
  go_enter Tryz.func42, Tryz.ntmps42
  go_wp2_with fail
  refine (from_any A n c _ hA0 hn).mono ?_
  rintro e w1 ⟨g, rfl, hg, hD1, hb1⟩
  rw [es] at hg
  have z1 := z0.on hb1
  have b1 := hb0.trans (hb1.mono hb0.size)
  clear z0 hA0 hb0 hb1 es hA
  have hn1 : some w.heap.size ≠ some g := by simp; omega
  have hn6 : ∀ q, some g = some q → w.heap.size ≤ q := fun q hq => by simp at hq; omega
  go_wp2_with fail
  refine (drawEdit_any g _ hD1).mono ?_
  rintro e w2 ⟨bL, us, rss, zz, rfl, hX2, h8, hl, hD2, hG2⟩
  have hgl := hD1.lt
  replace hX2 := hX2.less (show g + 1 ≤ w1.heap.size by omega)
  have z2 := z1.grown hG2 hn1
  have b2 := b1.trans (grown_below hG2 hn6 b1.size)
  clear z1 b1 hD1 hG2
  go_wp2_with fail
  refine (drawRule22_any g bL us rss _ hD2 hX2 h8 hl).mono ?_
  rintro e w3 ⟨⟨q0, q1, q2, q3, q4⟩, rfl, hD3, hG3⟩
  unfold Ru.val
  have hX3 := hX2.keptG hG3 (Nat.lt_succ_self g)
  have z3 := z2.grown hG3 hn1
  have b3 := b2.trans (grown_below hG3 hn6 b2.size)
  have hbl := (own_lt hX3.own bL rfl)
  have hgl3 := hD3.lt
  have y4 := Bk.new w3 30 #[.int .i64 q0, .int .i64 q1, .int .i64 q2, .int .i64 q3, .int .i64 q4]
  have hX4 := Lib.hid (hX3.alloc (.cells #[.int .i64 q0, .int .i64 q1, .int .i64 q2, .int .i64 q3, .int .i64 q4] 30))
  have hD4 := hD3.alloc (.cells #[.int .i64 q0, .int .i64 q1, .int .i64 q2, .int .i64 q3, .int .i64 q4] 30)
  have z4 := z3.alloc (.cells #[.int .i64 q0, .int .i64 q1, .int .i64 q2, .int .i64 q3, .int .i64 q4] 30)
  have b4 := b3.alloc b3.size (.cells #[.int .i64 q0, .int .i64 q1, .int .i64 q2, .int .i64 q3, .int .i64 q4] 30)
  have hn2 : some w3.heap.size ≠ some g := by simp; omega
  have hn3 : some w.heap.size ≠ some bL := by simp; omega
  have hn4 : some w3.heap.size ≠ some bL := by simp; omega
  have hn5 : ∀ q, some bL = some q → w.heap.size ≤ q := fun q hq => by simp at hq; omega
  have hn7 : w3.heap.size ≠ w.heap.size := by have := z3.lt; omega
  have hL := Lib.hid hl
  clear hX2 hD2 hG3 hX3 z2 b2 z3 b3 hD3 hl
  go_upto_region 4 with fail
  have yy := y4.drew
  have zr := z4.drew
  have hX := Lib.hid hX4.out.drew
  have hD := hD4.drew
  have tc := b4.drew
  clear y4 z4 hX4 hD4 b4
  go_region_held3 (fun w' => w'.cell? ⟨w3.heap.size, 0, none⟩ = some (.int .i64 q0) ∧ w'.cell? ⟨w3.heap.size, 1, none⟩ = some (.int .i64 q1) ∧ w'.cell? ⟨w3.heap.size, 2, none⟩ = some (.int .i64 q2) ∧ w'.cell? ⟨w3.heap.size, 3, none⟩ = some (.int .i64 q3) ∧ w'.cell? ⟨w3.heap.size, 4, none⟩ = some (.int .i64 q4)) (first | with_reducible exact box5 yy | exact box5 (((((yy.other (p := ⟨w.heap.size, 0, none⟩) hn7 _).other (p := ⟨w.heap.size, 1, none⟩) hn7 _).other (p := ⟨w.heap.size, 2, none⟩) hn7 _).other (p := ⟨w.heap.size, 3, none⟩) hn7 _).other (p := ⟨w.heap.size, 4, none⟩) hn7 _))
    (first | (go_at_call 77; refine (spoilLay_any g bL us rss 24 (by omega) _ hD hX.out h8 hL.out).mono ?_; rintro e wp ⟨v, wp1, rfl, hv, hD, hG1, hG2⟩; have yy := (yy.grown hG1 hn2).grown hG2 hn4; have zr := (zr.grown hG1 hn1).grown hG2 hn3; have tc := (tc.trans (grown_below hG1 hn6 tc.size)); have tc := tc.trans (grown_below hG2 hn5 tc.size); have hv := Lib.hid hv; have f0 := zr.frozen 0; have f1 := zr.frozen 1; have f2 := zr.frozen 2; have f3 := zr.frozen 3; have f4 := zr.frozen 4; obtain ⟨d0, d1, d2, d3, d4⟩ := box5 zr))
  go_wp2
  refine bodyPost_ret (v := .tuple #[v, zz, .agg #[.int .i64 q0, .int .i64 q1, .int .i64 q2, .int .i64 q3, .int .i64 q4]]) (by simp [results, Tryz.results42, go_sem, *]) rfl ?_
  have hwg : w.heap.size < g + 1 := by omega
  exact ⟨_, _, ⟨q0, q1, q2, q3, q4⟩, rfl, (((((hv.out.other (p := ⟨w.heap.size, 0, none⟩) hwg _).other (p := ⟨w.heap.size, 1, none⟩) hwg _).other (p := ⟨w.heap.size, 2, none⟩) hwg _).other (p := ⟨w.heap.size, 3, none⟩) hwg _).other (p := ⟨w.heap.size, 4, none⟩) hwg _).less (Nat.zero_le _), ((((tc.setCell (p := ⟨w.heap.size, 0, none⟩) (Nat.le_refl _) _).setCell (p := ⟨w.heap.size, 1, none⟩) (Nat.le_refl _) _).setCell (p := ⟨w.heap.size, 2, none⟩) (Nat.le_refl _) _).setCell (p := ⟨w.heap.size, 3, none⟩) (Nat.le_refl _) _).setCell (p := ⟨w.heap.size, 4, none⟩) (Nat.le_refl _) _⟩

end Go.Proofs.YtbljapihmkmolaaGreat
