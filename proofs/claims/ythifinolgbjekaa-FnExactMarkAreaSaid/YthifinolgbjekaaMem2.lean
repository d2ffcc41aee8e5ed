/- What memory holds, more: append with the word where the new row lies; a list that is read while another one grows. No conditions. -/
import Derived.Test.YthifinolgbjekaaRunsOf
import Derived.Maps.AppendAt
namespace Go.Proofs.Ythifinolgbjekaa
open Go.RowKit

/-- A slice value lies outside the blocks from N to M. -/
def OutB (v : Value) (N M : Nat) : Prop := ∀ g, v.ownBlock = some g → g < N ∨ M ≤ g
/-- A list of rectangles that lies in blocks from N to M. -/
structure Src (w : World) (N M : Nat) (u : Value) (rs : List Rc) : Prop where
  row : RL w N u rs
  hi : ∀ g, u.ownBlock = some g → g < M
theorem Src.of {w : World} {N : Nat} {u : Value} {rs : List Rc} (h : RL w N u rs) : Src w N w.heap.size u rs := ⟨h, fun g hg => (own_lt h g hg).2⟩
theorem Src.on {w w' : World} {N M : Nat} {u : Value} {rs : List Rc} (h : Src w N M u rs) (hb : Below w.heap.size w w') : Src w' N M u rs := ⟨h.row.on hb, h.hi⟩
theorem Src.alloc {w : World} {N M : Nat} {u : Value} {rs : List Rc} (h : Src w N M u rs) (o : Obj) : Src (w.alloc o) N M u rs := ⟨World.ownsRow.alloc h.row o, h.hi⟩
theorem Src.kept {w w' : World} {N M : Nat} {u v : Value} {rs : List Rc} (h : Src w N M u rs) (hv : OutB v N M) (hg : w.grownBy w' v.ownBlock) : Src w' N M u rs := by
  refine ⟨World.ownsRow.kept h.row hg ?_, h.hi⟩
  cases hu : u.ownBlock with
  | none => exact .inl rfl
  | some g =>
    right
    intro he
    have h1 := (own_lt h.row g hu).1
    have h2 := h.hi g hu
    rcases hv g he.symm with h3 | h3 <;> omega

/-- 'out = append(out, r)' on a list of rectangles of the call's own; the new row is the old one, or new. -/
theorem wpList_append_R_at {w : World} {ops : Array Oper} {rest : List Oper} {o : Oper} {a : Act} {Q : Exit → Act → World → Prop} (hgd : o.guard = none) (s x : Operand)
    (ho : o.op = .call { callee := .builtin .append, args := #[s, x], argTypes := #[24, 24] })
    (B : Nat) (v : Value) (rs : List Rc) (hs : a.eval s = v) (hown : RL w B v rs) (x0 y0 x1 y1 : Int) (hx : a.eval x = .slice (some ⟨w.heap.size, 0, none⟩) 1 1)
    (hlen : rs.length ≤ 1000000) (hB : B ≤ w.heap.size)
    (h : ∀ v' w', RL w' B v' (rs ++ [⟨x0, y0, x1, y1⟩]) → w.grownBy w' v.ownBlock → Below B w w' → (v'.ownBlock = v.ownBlock ∨ ∃ g, v'.ownBlock = some g ∧ w.heap.size ≤ g) → wpList Try.prog ops Q rest (a.put o.dst v') w') :
    wpList Try.prog ops Q (o :: rest) a (w.alloc (.cells #[.int .i64 x0, .int .i64 y0, .int .i64 x1, .int .i64 y1] 37)) := by
  obtain ⟨i, hi, hz, hsz, hby⟩ := info_parts infoRect
  refine wpList_append_own_at _ hgd s x 24 ho B 37 i _ 4 32 Try.underlying24 hi hz hsz hby rfl (by decide) v rs.length (flatR rs) hs (World.ownsRow.alloc hown _) ⟨w.heap.size, 0, none⟩ 1 1
    [.int .i64 x0, .int .i64 y0, .int .i64 x1, .int .i64 y1] hx rfl ?_ ?_ (by simp only [maxLen]; omega) (by omega) (by simp; omega) ?_
  · intro j u hu
    rw [Addr.add_lit, World.cell?_alloc_new]
    simpa using hu
  · intro u hu
    simp at hu
    rcases hu with rfl | rfl | rfl | rfl <;> rfl
  · intro v' w' h1 h2 _ hat
    have h3 := grown_of_alloc h2
    refine h v' w' ?_ h3 (below_own hown h3 hB) ?_
    · unfold RL
      rw [flatR_append, flatR_one, List.length_append]
      exact h1
    · rcases hat with hat | hat
      · exact .inl hat
      · exact .inr ⟨_, hat, by simp⟩
theorem OutB.next {v v' : Value} {N M s : Nat} (h : OutB v N M) (hM : M ≤ s) (hat : v'.ownBlock = v.ownBlock ∨ ∃ g, v'.ownBlock = some g ∧ s ≤ g) : OutB v' N M := by
  intro g hg
  rcases hat with e | ⟨g', e, hs⟩
  · exact h g (e ▸ hg)
  · rw [hg] at e
    simp at e
    omega
theorem Src.elem {w : World} {N M n c : Nat} {A : Option Addr} {rs : List Rc} (h : Src w N M (.slice A n c) rs) {k : Nat} (hk : k < rs.length) : ∃ g x0 y0 x1 y1, A = some ⟨g, 0, none⟩ ∧ rs[k]? = some ⟨x0, y0, x1, y1⟩ ∧ g < w.heap.size ∧
    w.cell? ⟨g, k * 4, none⟩ = some (.int .i64 x0) ∧ w.cell? ⟨g, k * 4 + 1, none⟩ = some (.int .i64 y0) ∧ w.cell? ⟨g, k * 4 + 2, none⟩ = some (.int .i64 x1) ∧ w.cell? ⟨g, k * 4 + 3, none⟩ = some (.int .i64 y1) := h.row.elem hk

theorem Src.at4 {w : World} {N M g n c : Nat} {rs : List Rc} (h : Src w N M (.slice (some ⟨g, 0, none⟩) n c) rs) {k : Nat} {x0 y0 x1 y1 : Int} (hr : rs[k]? = some ⟨x0, y0, x1, y1⟩) :
    w.cell? ⟨g, k * 4, none⟩ = some (.int .i64 x0) ∧ w.cell? ⟨g, k * 4 + 1, none⟩ = some (.int .i64 y0) ∧ w.cell? ⟨g, k * 4 + 2, none⟩ = some (.int .i64 x1) ∧ w.cell? ⟨g, k * 4 + 3, none⟩ = some (.int .i64 y1) := by
  obtain ⟨A', c', e, _, _, hf⟩ := h.row.form
  obtain ⟨g', hA, _, _, h0, h1, h2, h3⟩ := hf k _ hr
  simp only [Value.slice.injEq] at e
  have e1 := e.1.trans hA
  simp only [Option.some.injEq, Addr.mk.injEq] at e1
  rw [e1.1]
  exact ⟨h0, h1, h2, h3⟩

end Go.Proofs.Ythifinolgbjekaa
