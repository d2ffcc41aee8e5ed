/- Contracts: the reference's l17All and the program's allRuns. Condition of allRuns: the rectangles are valid. -/
import Derived.Test.YthifinolgbjekaaRunsOf
import Derived.Laws.AppendOwnNone
namespace Go.Proofs.Ythifinolgbjekaa
open Go.RowKit

/-- 'append(a, b...)', a a list of the call's own. -/
theorem wpList_append_RR {w : World} {ops : Array Oper} {rest : List Oper} {o : Oper} {a : Act} {Q : Exit → Act → World → Prop} (hgd : o.guard = none) (s x : Operand)
    (ho : o.op = .call { callee := .builtin .append, args := #[s, x], argTypes := #[24, 24] })
    (B B' : Nat) (v u : Value) (rs qs : List Rc) (hs : a.eval s = v) (hown : RL w B v rs) (hx : a.eval x = u) (hu : RL w B' u qs)
    (hlen : rs.length + qs.length ≤ 1000000) (hB : B ≤ w.heap.size)
    (h : ∀ v' w', RL w' B v' (rs ++ qs) → Below B w w' → wpList Try.prog ops Q rest (a.put o.dst v') w') :
    wpList Try.prog ops Q (o :: rest) a w := by
  obtain ⟨i, hi, hz, hsz, hby⟩ := info_parts infoRect
  have hu0 := hu
  unfold RL at hu
  rcases hu.2 with ⟨hv, hn⟩ | ⟨g, cap, cur, hv, hg, hh, hnc, hcm, hcs, htake⟩
  · have hq : qs = [] := List.length_eq_zero_iff.1 hn
    subst hq
    refine wpList_append_own_none hgd s x 24 ho B 37 i 4 Try.underlying24 hi v rs.length (flatR rs) hs hown (hx.trans hv) ?_
    exact h v w (by rw [List.append_nil]; exact hown) (Below.refl _ _)
  · refine wpList_append_own _ hgd s x 24 ho B 37 i _ 4 32 Try.underlying24 hi hz hsz hby rfl (by decide) v rs.length (flatR rs) hs hown ⟨g, 0, none⟩ qs.length cap
      (flatR qs) (hx.trans hv) (flatR_length qs) ?_ ?_ (by simp only [maxLen]; omega) (by omega) hB ?_
    · intro j y hy
      rw [Addr.add_lit, Nat.zero_add, cell_of_row w g j cur _ (0, 0) hh]
      rw [← htake, List.getElem?_take] at hy
      split at hy
      · simpa using hy
      · cases hy
    · intro y hy
      simp only [flatR, List.mem_flatMap, Rc.vals] at hy
      obtain ⟨r, _, hy⟩ := hy
      simp at hy
      rcases hy with rfl | rfl | rfl | rfl <;> rfl
    · intro v' w' h1 h2 _
      refine h v' w' ?_ (below_own hown h2 hB)
      unfold RL
      rw [flatR_append, List.length_append]
      exact h1

set_option maxRecDepth 100000 in
/-- l17All. -/
theorem l17All_any (v : Value) (G : Gr) (w : World) (hG : GS w 0 v G) : Calls Try.prog 61 #[v] w fun e w' => ∃ u, e = .returned u ∧ RL w' w.heap.size u (allG G) ∧ Below w.heap.size w w' := by
  have h1 := runsG_length G false
  have h2 := runsG_length G true
  have flag : True := trivial
  go_enter Try.func61, Try.ntmps61
  go_wp2_with (first | (go_at_call 101; clear flag; refine (l17Runs_any v G false _ hG).mono ?_; rintro e w1 ⟨u1, rfl, hR1, hb1⟩; have hG := hG.on hb1)
                     | (go_at_call 101; refine (l17Runs_any v G true _ hG).mono ?_; rintro e w2 ⟨u2, rfl, hR2, hb2⟩; have hb := hb1.trans (hb2.mono hb1.size))
                     | (at_builtin; refine wpList_append_RR rfl (.tmp 4) (.tmp 6) rfl w.heap.size w1.heap.size _ _ _ _ rfl (hR1.on hb2) rfl hR2 (by omega) hb.size ?_; intro v' w3 hR3 hb3))
  go_ret
  exact ⟨_, rfl, hR3, hb.trans hb3⟩

set_option maxRecDepth 100000 in
/-- allRuns. -/
theorem allRuns_any (v : Value) (rs : List Rc) (w : World) (hv : RL w 0 v rs) : Calls Try.prog 62 #[v] w fun e w' => ∃ u, e = .returned u ∧ RL w' w.heap.size u (allG (cellsG rs)) ∧ Below w.heap.size w w' := by
  have h1 := runsG_length (cellsG rs) false
  have h2 := runsG_length (cellsG rs) true
  have flag : True := trivial
  go_enter Try.func62, Try.ntmps62
  go_wp2_with (first | (go_at_call 73; refine (cellsOf_any v rs _ hv).mono ?_; rintro e w0 ⟨g, rfl, hg, hG, hb0⟩; have hB0 := hb0.size)
                     | (go_at_call 102; clear flag; refine (runsOf_any g false (cellsG rs) _ hG).mono ?_; rintro e w1 ⟨u1, rfl, hR1, hb1⟩; have hG := hG.on hb1)
                     | (go_at_call 102; refine (runsOf_any g true (cellsG rs) _ hG).mono ?_; rintro e w2 ⟨u2, rfl, hR2, hb2⟩; have hb := hb1.trans (hb2.mono hb1.size))
                     | (at_builtin; refine wpList_append_RR rfl (.tmp 7) (.tmp 9) rfl w0.heap.size w1.heap.size _ _ _ _ rfl (hR1.on hb2) rfl hR2 (by omega) hb.size ?_; intro v' w3 hR3 hb3))
  go_ret
  exact ⟨_, rfl, hR3.less hB0, hb0.trans ((hb.trans hb3).mono hB0)⟩

end Go.Proofs.Ythifinolgbjekaa
