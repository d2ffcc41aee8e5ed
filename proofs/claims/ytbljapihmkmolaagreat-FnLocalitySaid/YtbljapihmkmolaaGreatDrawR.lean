/- Contracts: layouts and decks that are spoilt or not; DrawCheckLayout. Condition: a well-formed source. -/
import Derived.Test.YtbljapihmkmolaaGreatDrawQ
namespace Go.Proofs.YtbljapihmkmolaaGreat
open Go.RowKit

/-- A layout that was drawn: eight lists, or seven. -/
def LayOk (w : World) (B : Nat) (v : Value) : Prop := (∃ (b : Nat) (us : List Value) (rss : List (List Rc)), v = .slice (some ⟨b, 0, none⟩) 8 8 ∧ LW w B v us rss ∧ rss.length = 8 ∧ ∀ rs ∈ rss, rs.length ≤ 7001) ∨ ∃ (A : Option Addr) (c : Nat), v = .slice A 7 c
theorem LayOk.on {w w' : World} {B : Nat} {v : Value} (h : LayOk w B v) (hb : Below w.heap.size w w') : LayOk w' B v := by
  rcases h with ⟨b, us, rss, rfl, h1, h2, h3⟩ | h
  · exact .inl ⟨b, us, rss, rfl, h1.on hb, h2, h3⟩
  · exact .inr h
theorem LayOk.less {w : World} {B B' : Nat} {v : Value} (h : LayOk w B v) (hb : B' ≤ B) : LayOk w B' v := by
  rcases h with ⟨b, us, rss, rfl, h1, h2, h3⟩ | h
  · exact .inl ⟨b, us, rss, rfl, h1.less hb, h2, h3⟩
  · exact .inr h
theorem LayOk.keptG {w w' : World} {g B : Nat} {v : Value} (h : LayOk w B v) (hg : w.grownBy w' (some g)) (hB : g < B) : LayOk w' B v := by
  rcases h with ⟨b, us, rss, rfl, h1, h2, h3⟩ | h
  · exact .inl ⟨b, us, rss, rfl, h1.keptG hg hB, h2, h3⟩
  · exact .inr h
theorem LayOk.keptQ {w w' : World} {B B' : Nat} {v u : Value} {qs : List Ru} (h : LayOk w B v) (hq : QL w B' u qs) (hg : w.grownBy w' u.ownBlock) : LayOk w' B v := by
  rcases h with ⟨b, us, rss, rfl, h1, h2, h3⟩ | h
  · exact .inl ⟨b, us, rss, rfl, ⟨h1.len, World.ownsRow.kept h1.own hg (own_apart h1.own hq (by decide)), fun k z r hz hr => World.ownsRow.kept (h1.each k z r hz hr) hg (own_apart (h1.each k z r hz hr) hq (by decide))⟩, h2, h3⟩
  · exact .inr h
theorem LayOk.other {w : World} {B : Nat} {v : Value} (h : LayOk w B v) {p : Addr} (hp : p.block < B) (x : Value) : LayOk (w.setCell p x) B v := by
  rcases h with ⟨b, us, rss, rfl, h1, h2, h3⟩ | h
  · have key : ∀ {z : Value}, (∀ q, z.ownBlock = some q → B ≤ q ∧ q < w.heap.size) → z.ownBlock ≠ some p.block := fun h e => by have := (h _ e).1; omega
    exact .inl ⟨b, us, rss, rfl, ⟨h1.len, own_other h1.own (key h1.inside.1) x, fun k z r hz hr => own_other (h1.each k z r hz hr) (key (h1.inside.2 k z hz)) x⟩, h2, h3⟩
  · exact .inr h
theorem own_below {w w' : World} {B N n size : Nat} {e : TypeId} {v : Value} {xs : List Value} (h : w.ownsRow B e size v n xs) (hb : Below N w w') (hl : ∀ g, v.ownBlock = some g → g < N) : w'.ownsRow B e size v n xs := by
  refine ⟨h.1, ?_⟩
  rcases h.2 with h2 | ⟨g, cap, cur, rfl, hg, hh, r⟩
  · exact .inl h2
  · exact .inr ⟨g, cap, cur, rfl, hg, (hb.block g (hl g rfl)).trans hh, r⟩
/-- A layout stays behind a call that writes a source, another list, and new memory. -/
theorem LayOk.thru {w w1 w2 w' : World} {g B B' : Nat} {v u : Value} {qs : List Ru} (h : LayOk w B v) (hB : g < B) (h1 : w.grownBy w1 (some g)) (hq : QL w1 B' u qs) (h2 : w1.grownBy w2 u.ownBlock) (h3 : Below w.heap.size w2 w') : LayOk w' B v := by
  have k2 := (h.keptG h1 hB).keptQ hq h2
  rcases h with ⟨b, us, rss, rfl, a1, a2, a3⟩ | h
  · rcases k2 with ⟨b', us', rss', e, c1, c2, c3⟩ | ⟨A, c, e⟩
    · have hle := a1.keptG h1 hB
      have x1 : LW w2 B (.slice (some ⟨b, 0, none⟩) 8 8) us rss := ⟨hle.len, World.ownsRow.kept hle.own h2 (own_apart hle.own hq (by decide)), fun k z r hz hr => World.ownsRow.kept (hle.each k z r hz hr) h2 (own_apart (hle.each k z r hz hr) hq (by decide))⟩
      have hin := a1.inside
      exact .inl ⟨b, us, rss, rfl, ⟨x1.len, own_below x1.own h3 (fun g hg => (hin.1 g hg).2), fun k z r hz hr => own_below (x1.each k z r hz hr) h3 (fun g hg => (hin.2 k z hz g hg).2)⟩, a2, a3⟩
    · simp at e
  · exact .inr h

set_option maxHeartbeats 800000 in
set_option maxRecDepth 100000 in
/-- l20SpoilLayers. -/
theorem spoilLay_any (g bL : Nat) (us : List Value) (rss : List (List Rc)) (n : Int) (hn : 1 ≤ n ∧ n ≤ 1000) (w : World) (hD : Dice w g) (hX : LW w (g + 1) (.slice (some ⟨bL, 0, none⟩) 8 8) us rss) (h8 : rss.length = 8) (hl : ∀ rs ∈ rss, rs.length ≤ 7000 ∧ okAll rs = true) :
    Calls Tryz.prog 77 #[.pointer (some ⟨g, 0, none⟩), .slice (some ⟨bL, 0, none⟩) 8 8, .int .i64 n] w fun e w' => ∃ (v : Value) (w1 : World), e = .returned v ∧ LayOk w' (g + 1) v ∧ Dice w' g ∧ w.grownBy w1 (some g) ∧ w1.grownBy w' (some bL) := by
  have hg := hD.lt
  have hL := Lib.hid hl
  have hbL : g < bL := by have := (own_lt hX.own bL rfl).1; omega
  clear hl
  go_enter Tryz.func77, Tryz.ntmps77
  go_wp2_with fail
  refine (next_ge1 g n _ hD (by omega)).mono ?_
  rintro e w1 ⟨k, rfl, hk, hD1, hG1⟩
  have hX1 := hX.keptG hG1 (Nat.lt_succ_self g)
  clear hX hD
  by_cases hk0 : k = 0
  · subst hk0
    go_wp2_with fail
    refine (next_any g 2 _ hD1 (by omega)).mono ?_
    rintro e w2 ⟨q, rfl, hq, hD2, hG2⟩
    have hX2 := hX1.keptG hG2 (Nat.lt_succ_self g)
    have hA2 := only_trans hG1 hG2
    clear hX1 hD1 hG1 hG2
    by_cases hq0 : q = 0
    · subst hq0
      clear hX2
      go_wp2
      go_ret
      exact ⟨_, _, rfl, .inr ⟨_, _, rfl⟩, hD2, hA2, only_refl _ _⟩
    · have b0 : (q == 0) = false := by simpa using hq0
      have hm8 : 0 < rss.length := by omega
      obtain ⟨g0, y, hA0, hy, -, d1, d0, hR⟩ := LW.elem hX2 (List.getElem?_eq_getElem hm8)
      cases hA0
      obtain ⟨Ay, cy, rfl, -, -, -⟩ := hR.form
      have hn7 := (hL.out _ (List.getElem_mem hm8)).1
      go_wp2_with fail
      refine (spoilL_any g _ _ _ hD2 hR hn7 1 (by omega)).mono ?_
      rintro e w3 ⟨u, rs, rfl, hR3, hl3, hD3, hG3⟩
      have hX3 := hX2.keptG hG3 (Nat.lt_succ_self g)
      have hA3 := only_trans hA2 hG3
      have z0 := hX3.frozen 0
      have HX4 := Lib.hid (hX3.set1 hm8 rs u hR3)
      have Hsm2 : Hid (∀ x ∈ rss.set 0 rs, x.length ≤ 7001) := Lib.hid (fun x hx => by
        rcases List.mem_or_eq_of_mem_set hx with h | h
        · exact Nat.le_trans (hL.out x h).1 (by omega)
        · rw [h]; exact hl3)
      obtain ⟨g1, y1, hA1, hy1, -, d1, d0, -⟩ := LW.elem hX3 (List.getElem?_eq_getElem hm8)
      cases hA1
      obtain ⟨Au, cu, hu', -, -, -⟩ := hR3.form
      clear hX2 hD2 hA2 hG3 hR hy hX3 hy1
      subst hu'
      go_wp2
      go_ret
      exact ⟨_, w3, rfl, .inl ⟨_, _, _, rfl, HX4.out, by rw [List.length_set]; exact h8, Hsm2.out⟩, hD3.other (p := ⟨bL, 0, none⟩) hbL _, hA3, only_store (only_refl w3 (some bL)) 0 _⟩
  · have b0 : (k != 0) = true := by simpa using hk0
    go_wp2
    go_ret
    exact ⟨_, w1, rfl, .inl ⟨_, _, _, rfl, hX1, h8, fun rs h => Nat.le_trans (hL.out rs h).1 (by omega)⟩, hD1, hG1, only_refl _ _⟩

theorem QL.setV {w : World} {B g n c : Nat} {qs : List Ru} (h : QL w B (.slice (some ⟨g, 0, none⟩) n c) qs) {q : Ru} (hq : qs[0]? = some q) (x : Int) :
    QL (w.setCell ⟨g, 3, none⟩ (.int .i64 x)) B (.slice (some ⟨g, 0, none⟩) n c) (qs.set 0 ⟨q.k, q.l, q.o, x, q.p⟩) := by
  obtain ⟨A, c', e, _, _⟩ := h.form
  simp only [Value.slice.injEq] at e
  obtain ⟨_, rfl, _⟩ := e
  have hj : 0 < qs.length := (List.getElem?_eq_some_iff.1 hq).1
  obtain ⟨f0, f1, f2, f3, f4⟩ := flatQ_get qs 0 q hq
  unfold QL at h ⊢
  have e4 : ((flatQ qs).set (0 * 5 + 3) (.int .i64 x))[0 * 5 + 4]? = some (.int .i64 q.p) := by rw [List.getElem?_set_ne (by omega)]; exact f4
  rw [← flatQ_set _ _ _ _ _ _ _ hj, List.length_set, set_same f0, set_same f1, set_same f2, set_same e4]
  exact (h.stored _ _).1

set_option maxHeartbeats 1600000 in
set_option maxRecDepth 100000 in
/-- l20SpoilDeck. -/
theorem spoilDeck_any (g : Nat) (u : Value) (qs : List Ru) (n : Int) (hn : 1 ≤ n ∧ n ≤ 1000) (w : World) (hD : Dice w g) (hQ : QL w (g + 1) u qs) (h5 : qs.length ≤ 5) :
    Calls Tryz.prog 78 #[.pointer (some ⟨g, 0, none⟩), .agg #[u], .int .i64 n] w fun e w' => ∃ (u' : Value) (qs' : List Ru) (w1 w2 : World), e = .returned (.agg #[u']) ∧ QL w' (g + 1) u' qs' ∧ qs'.length ≤ 6 ∧ Dice w' g ∧ w.grownBy w1 (some g) ∧ w1.grownBy w2 u.ownBlock ∧ Below w.heap.size w2 w' := by
  have hg := hD.lt
  obtain ⟨A, c, rfl, hc, hm⟩ := hQ.form
  have z0 := Bk.new w 44 #[.slice A qs.length c]
  have z1 := Bk.new (w.alloc (.cells #[.slice A qs.length c] 44)) 44 #[.slice none 0 0]
  have es : (w.alloc (.cells #[.slice A qs.length c] 44)).heap.size = w.heap.size + 1 := by simp
  rw [es] at z1
  have z0' := z0.alloc (.cells #[.slice none 0 0] 44)
  have hlt := Lib.hid (hQ.lt)
  have hQ0 := (hQ.alloc (.cells #[.slice A qs.length c] 44)).alloc (.cells #[.slice none 0 0] 44)
  have hD0 := (hD.alloc (.cells #[.slice A qs.length c] 44)).alloc (.cells #[.slice none 0 0] 44)
  have hA0 := only_alloc (only_alloc (only_refl w (some g)) (.cells #[.slice A qs.length c] 44)) (.cells #[.slice none 0 0] 44)
  clear z0 es hD hQ
  have d0 := box1 z0'
  have d1 := box1 z1
  have f1 := z1.frozen 0
  go_enter Tryz.func78, Tryz.ntmps78
  by_cases h0 : qs.length = 0
  · obtain rfl : qs = [] := List.length_eq_zero_iff.1 h0
    clear h0
    go_wp2
    refine bodyPost_ret (v := .agg #[.slice A 0 c]) (by simp [results, Tryz.results78, go_sem, *]) rfl ?_
    have e : (w.alloc (.cells #[.slice A 0 c] 44)).alloc (.cells #[.slice A 0 c] 44) = ((w.alloc (.cells #[.slice A 0 c] 44)).alloc (.cells #[.slice none 0 0] 44)).setCell ⟨w.heap.size + 1, 0, none⟩ (.slice A 0 c) := by simp [go_sem]
    rw [e]
    refine ⟨_, [], _, _, rfl, ?_, by simp, hD0.other (p := ⟨w.heap.size + 1, 0, none⟩) (by show g < w.heap.size + 1; omega) _, hA0, only_refl _ _, (Below.refl w.heap.size _).setCell (p := ⟨w.heap.size + 1, 0, none⟩) (by show w.heap.size ≤ w.heap.size + 1; omega) _⟩
    exact own_other hQ0 (fun e => absurd (hlt.out _ e).2 (by simp)) _
  · have b0 : ((qs.length : Int) == 0) = false := by simpa using h0
    have hpos : 0 < qs.length := by omega
    obtain ⟨⟨q0, q1, q2, q3, q4⟩, hq⟩ : ∃ q, qs[0]? = some q := ⟨_, List.getElem?_eq_getElem hpos⟩
    go_wp2_with fail
    refine (next_ge1 g n _ hD0 (by omega)).mono ?_
    rintro e w1 ⟨k, rfl, hk, hD1, hG1⟩
    have hQ1 := hQ0.keptG hG1 (Nat.lt_succ_self g)
    have hA1 := only_trans hA0 hG1
    have y0 := z0'.grown hG1 (show some w.heap.size ≠ some g by simp; omega)
    have y1 := z1.grown hG1 (show some (w.heap.size + 1) ≠ some g by simp; omega)
    clear hD0 hA0 hQ0 z0' z1 d0 d1 f1 hG1
    by_cases hk0 : k = 0
    · subst hk0
      have d0 := box1 y0
      go_wp2_with fail
      refine (next_any g 2 _ hD1 (by omega)).mono ?_
      rintro e w2 ⟨j, rfl, hj, hD2, hG2⟩
      have hQ2 := hQ1.keptG hG2 (Nat.lt_succ_self g)
      have hA2 := only_trans hA1 hG2
      replace y0 := y0.grown hG2 (show some w.heap.size ≠ some g by simp; omega)
      replace y1 := y1.grown hG2 (show some (w.heap.size + 1) ≠ some g by simp; omega)
      clear hD1 hA1 hQ1 d0 hG2
      obtain ⟨gq, rfl, hgq, hgl, c0, c1, c2, c3, c4⟩ := hQ2.elem hq
      have hgw : gq < w.heap.size := (hlt.out gq rfl).2
      have hzl : w.heap.size ≤ w2.heap.size := by have := y0.lt; omega
      by_cases hj0 : j = 0
      · subst hj0
        have f3 := hQ2.frozen 3
        have HQ3 := Lib.hid (hQ2.setV hq 0)
        have x0 := y0.other (p := ⟨gq, 3, none⟩) (show w.heap.size ≠ gq by omega) (.int .i64 0)
        have x1 := y1.other (p := ⟨gq, 3, none⟩) (show w.heap.size + 1 ≠ gq by omega) (.int .i64 0)
        have d0 := box1 y0
        have e0 := box1 x0
        have e1 := box1 x1
        have g1 := x1.frozen 0
        have HD3 := Lib.hid (hD2.other (p := ⟨gq, 3, none⟩) (show g < gq by omega) (.int .i64 0))
        have HG3 := Lib.hid (only_store (only_refl w2 (some gq)) 3 (.int .i64 0))
        clear hQ2 y0 y1 hD2 c0 c1 c2 c4
        go_wp2
        refine bodyPost_ret (v := .agg #[.slice (some ⟨gq, 0, none⟩) qs.length c]) (by simp [results, Tryz.results78, go_sem, *]) rfl ?_
        have hfin := HQ3.out
        exact ⟨_, _, _, _, rfl, own_other hfin (fun e => absurd (hlt.out _ e).2 (by simp)) _, by rw [List.length_set]; omega, HD3.out.other (p := ⟨w.heap.size + 1, 0, none⟩) (by show g < w.heap.size + 1; omega) _, hA2, HG3.out, (Below.refl w.heap.size _).setCell (p := ⟨w.heap.size + 1, 0, none⟩) (by show w.heap.size ≤ w.heap.size + 1; omega) _⟩
      · have b1 : (j == 0) = false := by simpa using hj0
        have d0 := box1 y0
        have zr := Bk.new w2 30 #[.int .i64 q0, .int .i64 q1, .int .i64 q2, .int .i64 q3, .int .i64 q4]
        have hQ3 := hQ2.alloc (.cells #[.int .i64 q0, .int .i64 q1, .int .i64 q2, .int .i64 q3, .int .i64 q4] 30)
        have hD3 := hD2.alloc (.cells #[.int .i64 q0, .int .i64 q1, .int .i64 q2, .int .i64 q3, .int .i64 q4] 30)
        have x0 := y0.alloc (.cells #[.int .i64 q0, .int .i64 q1, .int .i64 q2, .int .i64 q3, .int .i64 q4] 30)
        have x1 := y1.alloc (.cells #[.int .i64 q0, .int .i64 q1, .int .i64 q2, .int .i64 q3, .int .i64 q4] 30)
        have hA3 := only_alloc hA2 (.cells #[.int .i64 q0, .int .i64 q1, .int .i64 q2, .int .i64 q3, .int .i64 q4] 30)
        have e0 := box1 x0
        obtain ⟨r0, r1, r2, r3, r4⟩ := box5 zr
        have HS := Lib.hid (show (w2.alloc (.cells #[.int .i64 q0, .int .i64 q1, .int .i64 q2, .int .i64 q3, .int .i64 q4] 30)).heap.size = w2.heap.size + 1 by simp)
        have hlen : qs.length ≤ 1000000 := by omega
        have hs3 : g + 1 ≤ (w2.alloc (.cells #[.int .i64 q0, .int .i64 q1, .int .i64 q2, .int .i64 q3, .int .i64 q4] 30)).heap.size := by have := x0.lt; omega
        have n0 : some w.heap.size ≠ (Value.slice (some ⟨gq, 0, none⟩) qs.length c).ownBlock := fun e => by have := (hlt.out _ e.symm).2; omega
        have n1 : some (w.heap.size + 1) ≠ (Value.slice (some ⟨gq, 0, none⟩) qs.length c).ownBlock := fun e => by have := (hlt.out _ e.symm).2; omega
        clear hQ2 y0 y1 hD2 hA2 zr
        go_wp2_with (at_builtin; refine wpList_append_Q rfl (.tmp 32) (.tmp 34) rfl (g + 1) _ qs rfl hQ3 _ _ _ _ _ (by rw [HS.out]; rfl) hlen hs3 ?_; intro v' wB p1 p2 p3; obtain ⟨Av, cv, hv', -, -⟩ := p1.form; rw [List.length_append, List.length_singleton] at hv'; subst hv'; have x0 := x0.grown p2 n0; have x1 := x1.grown p2 n1; have u0 := box1 x0; have f0 := x0.frozen 0; have f1 := x1.frozen 0; have u1 := box1 x1; have m0 := x0.apart' p1 (by decide); have m1 := x1.apart' p1 (by decide))
        refine bodyPost_ret (v := .agg #[.slice Av (qs.length + 1) cv]) (by simp [results, Tryz.results78, go_sem, *]) rfl ?_
        exact ⟨_, _, _, _, rfl, own_other (own_other p1 (fun e => m0 e.symm) _) (fun e => m1 e.symm) _, by rw [List.length_append, List.length_singleton]; omega, ((hD3.below p3 (by omega)).other (p := ⟨w.heap.size, 0, none⟩) hg _).other (p := ⟨w.heap.size + 1, 0, none⟩) (by show g < w.heap.size + 1; omega) _, hA3, p2, ((Below.refl w.heap.size wB).setCell (p := ⟨w.heap.size, 0, none⟩) (Nat.le_refl _) _).setCell (p := ⟨w.heap.size + 1, 0, none⟩) (by show w.heap.size ≤ w.heap.size + 1; omega) _⟩
    · have b1 : (k != 0) = true := by simpa using hk0
      have d0 := box1 y0
      have d1 := box1 y1
      have f1 := y1.frozen 0
      go_wp2
      refine bodyPost_ret (v := .agg #[.slice A qs.length c]) (by simp [results, Tryz.results78, go_sem, *]) rfl ?_
      exact ⟨_, qs, _, _, rfl, own_other hQ1 (fun e => absurd (hlt.out _ e).2 (by simp)) _, by omega, hD1.other (p := ⟨w.heap.size + 1, 0, none⟩) (by show g < w.heap.size + 1; omega) _, hA1, only_refl _ _, (Below.refl w.heap.size _).setCell (p := ⟨w.heap.size + 1, 0, none⟩) (by show w.heap.size ≤ w.heap.size + 1; omega) _⟩

set_option maxHeartbeats 1600000 in
set_option maxRecDepth 100000 in
/-- DrawCheckLayout. -/
theorem drawCheck_any (A : Option Addr) (n c : Nat) (w : World) (hA : ArgB w A n) (hn : n ≤ 4096) : Calls Tryz.prog 31 #[.slice A n c] w fun e w' => ∃ (v u : Value) (qs : List Ru), e = .returned (.tuple #[v, .agg #[u]]) ∧ LayOk w' 0 v ∧ QL w' 0 u qs ∧ qs.length ≤ 6 ∧ Below w.heap.size w w' := by
  have z0 := Bk.new w 44 #[.slice none 0 0]
  have hA0 := hA.on ((Below.refl w.heap.size w).alloc (Nat.le_refl _) (.cells #[.slice none 0 0] 44))
  have b0 := (Below.refl w.heap.size w).alloc (Nat.le_refl _) (.cells #[.slice none 0 0] 44)
  have es : (w.alloc (.cells #[.slice none 0 0] 44)).heap.size = w.heap.size + 1 := by simp
  go_enter Tryz.func31, Tryz.ntmps31
  go_wp2_with fail
  refine (from_any A n c _ hA0 hn).mono ?_
  rintro e w1 ⟨g, rfl, hg, hD1, hb1⟩
  rw [es] at hg
  have z1 := z0.on hb1
  replace b0 := b0.trans (hb1.mono b0.size)
  clear z0 hA0 hb1 es hA
  go_wp2_with fail
  refine (drawLayers_any g _ hD1).mono ?_
  rintro e w2 ⟨bL, us, rss, rfl, hX2, h8, hl, hD2, hG2⟩
  have hgl := hD1.lt
  replace hX2 := hX2.less (show g + 1 ≤ w1.heap.size by omega)
  have z2 := z1.grown hG2 (show some w.heap.size ≠ some g by simp; omega)
  replace b0 := b0.trans (grown_below hG2 (fun q hq => by simp at hq; omega) b0.size)
  clear z1 hD1 hG2
  go_wp2_with fail
  refine (drawDeck_any g bL us rss _ hD2 hX2 h8 hl).mono ?_
  rintro e w3 ⟨u, qs, rfl, hQ3, h5, hD3, hG3⟩
  replace hQ3 := hQ3.less (show g + 1 ≤ w2.heap.size by have := hD2.lt; omega)
  have hX3 := hX2.keptG hG3 (Nat.lt_succ_self g)
  have z3 := z2.grown hG3 (show some w.heap.size ≠ some g by simp; omega)
  replace b0 := b0.trans (grown_below hG3 (fun q hq => by simp at hq; omega) b0.size)
  clear z2 hX2 hD2 hG3
  have hgl3 := hD3.lt
  obtain ⟨Au, cu, rfl, hcu, hmu⟩ := hQ3.form
  have hbl := (own_lt hX3.own bL rfl)
  have y3 := Bk.new w3 44 #[.slice Au qs.length cu]
  have hX4 := hX3.alloc (.cells #[.slice Au qs.length cu] 44)
  have hQ4 := hQ3.alloc (.cells #[.slice Au qs.length cu] 44)
  have hD4 := hD3.alloc (.cells #[.slice Au qs.length cu] 44)
  have z4 := z3.alloc (.cells #[.slice Au qs.length cu] 44)
  have b4 := b0.alloc b0.size (.cells #[.slice Au qs.length cu] 44)
  clear hX3 hQ3 hD3 z3 b0
  have d3 := box1 y3
  have hwz := z4.lt
  have hn1 : some w.heap.size ≠ some g := by simp; omega
  have hn2 : some w3.heap.size ≠ some g := by simp; omega
  have hn3 : some w.heap.size ≠ some bL := by simp; omega
  have hn4 : some w3.heap.size ≠ some bL := by simp; omega
  have hn5 : ∀ q, some bL = some q → w.heap.size ≤ q := fun q hq => by simp at hq; omega
  have hn6 : ∀ q, some g = some q → w.heap.size ≤ q := fun q hq => by simp at hq; omega
  have hn7 : w3.heap.size ≠ w.heap.size := by omega
  have hL := Lib.hid hl
  go_upto_region 4 with fail
  have yy := y3.drew
  have zz := z4.drew
  have hX := Lib.hid hX4.drew
  have hQ := Lib.hid hQ4.drew
  have hD := hD4.drew
  have tc := b4.drew
  clear d3 y3 z4 hX4 hQ4 hD4 b4 hl
  go_region_held3 (fun w' => w'.cell? ⟨w3.heap.size, 0, none⟩ = some (.slice Au qs.length cu)) (first | with_reducible exact box1 yy | exact box1 (yy.other (p := ⟨w.heap.size, 0, none⟩) hn7 _))
    (first | (go_at_call 77; refine (spoilLay_any g bL us rss 20 (by omega) _ hD hX.out h8 hL.out).mono ?_; rintro e wp ⟨v, wp1, rfl, hv, hD, hG1, hG2⟩; have yy := (yy.grown hG1 hn2).grown hG2 hn4; have zz := (zz.grown hG1 hn1).grown hG2 hn3; have tc := (tc.trans (grown_below hG1 hn6 tc.size)); have tc := tc.trans (grown_below hG2 hn5 tc.size); have hQ1 := hQ.out.keptG hG1 (Nat.lt_succ_self g); have hX1 := hX.out.keptG hG1 (Nat.lt_succ_self g); have hQ : Hid (QL wp (g + 1) (.slice Au qs.length cu) qs) := Lib.hid (World.ownsRow.kept hQ1 hG2 (own_apart hQ1 hX1.own (by decide))); have hv := Lib.hid hv)
           | (go_at_call 78; refine (spoilDeck_any g _ qs 20 (by omega) _ hD hQ.out h5.2).mono ?_; rintro e wq ⟨u2, qs2, wa, wb, rfl, hQ2, hl2, hD, hG3, hG4, hb5⟩; have hQa := hQ.out.keptG hG3 (Nat.lt_succ_self g); have hv := hv.out.thru (Nat.lt_succ_self g) hG3 hQa hG4 hb5; have zlo := tc.size; have yy := ((yy.grown hG3 hn2).grown hG4 (yy.grown hG3 hn2 |>.apart' hQa (by decide))).below hb5 yy.lt; have zz := ((zz.grown hG3 hn1).grown hG4 (zz.grown hG3 hn1 |>.apart' hQa (by decide))).below hb5 zz.lt; have tc := tc.trans (grown_below hG3 hn6 tc.size); have tc := tc.trans (grown_below hG4 (fun q hq => by have := (hQa.lt q hq).1; omega) tc.size); have tc := tc.trans (hb5.mono zlo); obtain ⟨A2, c2, rfl, -, -⟩ := hQ2.form; have f0 := zz.frozen 0; have f1 := box1 zz))
  go_wp2
  refine bodyPost_ret (v := .tuple #[v, .agg #[.slice A2 qs2.length c2]]) (by simp [results, Tryz.results31, go_sem, *]) rfl ?_
  exact ⟨_, _, _, rfl, (hv.other (p := ⟨w.heap.size, 0, none⟩) (by show w.heap.size < g + 1; omega) _).less (Nat.zero_le _), own_other (hQ2.less (Nat.zero_le _)) (fun e => absurd (hQ2.lt _ e).1 (by show ¬ (g + 1 ≤ w.heap.size); omega)) _, hl2, tc.setCell (p := ⟨w.heap.size, 0, none⟩) (Nat.le_refl _) _⟩

end Go.Proofs.YtbljapihmkmolaaGreat
