/- What memory holds: lists of pairs of numbers (the queues of the searches). No conditions. The eight neighbours of a cell in the order in which the program's search looks at them. No conditions. The four neighbours of a cell in the order in which the reference's search looks at them. No conditions. -/
import Derived.Test.YtemeegpmdhgocaaGreatCombA
import Derived.Test.YtemeegpmdhgocaaGreatMathA
namespace Go.Proofs.YtemeegpmdhgocaaGreat
open Go.RowKit

def flatP : List (Int × Int) → List Value
  | [] => []
  | p :: ps => .int .i64 p.1 :: .int .i64 p.2 :: flatP ps
theorem flatP_length : ∀ ps : List (Int × Int), (flatP ps).length = ps.length * 2
  | [] => rfl
  | p :: ps => by
    have := flatP_length ps
    simp only [flatP, List.length_cons, this]
    omega
theorem flatP_append : ∀ a b : List (Int × Int), flatP (a ++ b) = flatP a ++ flatP b
  | [], _ => rfl
  | p :: a, b => by simp only [List.cons_append, flatP, flatP_append a b]
theorem flatP_get : ∀ (ps : List (Int × Int)) (k : Nat) (p : Int × Int), ps[k]? = some p → (flatP ps)[k * 2]? = some (.int .i64 p.1) ∧ (flatP ps)[k * 2 + 1]? = some (.int .i64 p.2)
  | [], k, p, h => by simp at h
  | q :: ps, 0, p, h => by
    simp only [List.getElem?_cons_zero, Option.some.injEq] at h
    subst h
    exact ⟨rfl, rfl⟩
  | q :: ps, k + 1, p, h => by
    have ih := flatP_get ps k p (by simpa using h)
    have e1 : (k + 1) * 2 = k * 2 + 1 + 1 := by omega
    have e2 : k * 2 + 1 + 1 + 1 = (k * 2 + 1) + 1 + 1 := rfl
    rw [e1]
    simp only [flatP]
    rw [List.getElem?_cons_succ, List.getElem?_cons_succ, e2, List.getElem?_cons_succ, List.getElem?_cons_succ]
    exact ih
/-- The slice value v is the list ps of pairs, in a row from block B on (B = 0: wherever). -/
def PL (w : World) (t : TypeId) (B : Nat) (v : Value) (ps : List (Int × Int)) : Prop := w.ownsRow B t 2 v ps.length (flatP ps)
section
variable {w w' : World} {t : TypeId} {B B' : Nat} {v : Value} {ps : List (Int × Int)}
theorem PL.on (h : PL w t B v ps) (hb : Below w.heap.size w w') : PL w' t B v ps := own_on h hb
theorem PL.less (h : PL w t B v ps) (hB : B' ≤ B) : PL w t B' v ps := own_less h hB
theorem PL.alloc (h : PL w t B v ps) (o : Obj) : PL (w.alloc o) t B v ps := World.ownsRow.alloc h o
theorem PL.other (h : PL w t B v ps) {p : Addr} (hne : some p.block ≠ v.ownBlock) (x : Value) : PL (w.setCell p x) t B v ps := own_other h (fun e => hne e.symm) x
theorem PL.drewN (h : PL w t B v ps) (n : Nat) : PL (w.drewN n) t B v ps := h
theorem PL.form (h : PL w t B v ps) : ∃ A cap, v = .slice A ps.length cap ∧ ps.length ≤ cap ∧ cap ≤ maxLen ∧
    (∀ (k : Nat) (p : Int × Int), ps[k]? = some p → ∃ g, A = some ⟨g, 0, none⟩ ∧ B ≤ g ∧ g < w.heap.size ∧ w.cell? ⟨g, k * 2, none⟩ = some (.int .i64 p.1) ∧ w.cell? ⟨g, k * 2 + 1, none⟩ = some (.int .i64 p.2)) := by
  obtain ⟨A, cap, hv, h1, h2, h3⟩ := own_form h
  refine ⟨A, cap, hv, h1, h2, fun k p hk => ?_⟩
  have hlt : k < ps.length := (List.getElem?_eq_some_iff.1 hk).1
  obtain ⟨g, hA, hg, hgw, hc, _⟩ := h3 (by omega)
  obtain ⟨f0, f1⟩ := flatP_get ps k p hk
  exact ⟨g, hA, hg, hgw, hc _ _ f0, hc _ _ f1⟩
theorem PL.one (w : World) (t : TypeId) {B : Nat} (hB : B ≤ w.heap.size) (a b : Int) : PL (w.alloc (.cells #[.int .i64 a, .int .i64 b] t)) t B (.slice (some ⟨w.heap.size, 0, none⟩) 1 1) [(a, b)] := World.ownsRow_lit w #[.int .i64 a, .int .i64 b] 1 hB (by simp [maxLen]) rfl
theorem PL.elem {A : Option Addr} {n c : Nat} (h : PL w t B (.slice A n c) ps) {k : Nat} {p : Int × Int} (hr : ps[k]? = some p) : ∃ g, A = some ⟨g, 0, none⟩ ∧ g < w.heap.size ∧
    w.cell? ⟨g, k * 2, none⟩ = some (.int .i64 p.1) ∧ w.cell? ⟨g, k * 2 + 1, none⟩ = some (.int .i64 p.2) := by
  obtain ⟨A', c', e, _, _, hf⟩ := h.form
  obtain ⟨g, hA, _, hg, h0, h1⟩ := hf k _ hr
  simp only [Value.slice.injEq] at e
  exact ⟨g, e.1.trans hA, hg, h0, h1⟩
end
theorem infoPair : (Tryz.prog.info? 161).map (fun i => (i.zero, i.size, i.bytes)) = some (some (.agg #[.int .i64 0, .int .i64 0]), 2, 16) := by kernel_rfl
theorem infoPoint : (Tryz.prog.info? 124).map (fun i => (i.zero, i.size, i.bytes)) = some (some (.agg #[.int .i64 0, .int .i64 0]), 2, 16) := by kernel_rfl
/-- 'out = append(out, p)' on a list of pairs ([2]int) of the call's own. -/
theorem wpList_append_2 {w : World} {ops : Array Oper} {rest : List Oper} {o : Oper} {a : Act} {Q : Exit → Act → World → Prop} (hgd : o.guard = none) (s x : Operand)
    (ho : o.op = .call { callee := .builtin .append, args := #[s, x], argTypes := #[162, 162] })
    (B : Nat) (v : Value) (ps : List (Int × Int)) (hs : a.eval s = v) (hown : PL w 161 B v ps) (x0 y0 : Int) (hx : a.eval x = .slice (some ⟨w.heap.size, 0, none⟩) 1 1)
    (hlen : ps.length ≤ 1000000) (hB : B ≤ w.heap.size)
    (h : ∀ v' w', PL w' 161 B v' (ps ++ [(x0, y0)]) → w.grownBy w' v.ownBlock → Below B w w' → (v'.ownBlock = v.ownBlock ∨ ∃ g, v'.ownBlock = some g ∧ w.heap.size ≤ g) → wpList Tryz.prog ops Q rest (a.put o.dst v') w') :
    wpList Tryz.prog ops Q (o :: rest) a (w.alloc (.cells #[.int .i64 x0, .int .i64 y0] 161)) := by
  obtain ⟨i, hi, hz, hsz, hby⟩ := info_parts infoPair
  refine wpList_append_own_at _ hgd s x 162 ho B 161 i _ 2 16 Tryz.underlying162 hi hz hsz hby rfl (by decide) v ps.length (flatP ps) hs (World.ownsRow.alloc hown _) ⟨w.heap.size, 0, none⟩ 1 1
    [.int .i64 x0, .int .i64 y0] hx rfl ?_ ?_ (by simp only [maxLen]; omega) (by omega) (by simp; omega) ?_
  · intro j u hu
    rw [Addr.add_lit, World.cell?_alloc_new]
    simpa using hu
  · intro u hu
    simp at hu
    rcases hu with rfl | rfl <;> rfl
  · intro v' w' h1 h2 _ hat
    have h3 := grown_of_alloc h2
    refine h v' w' ?_ h3 (below_own hown h3 hB) ?_
    · unfold PL
      rw [flatP_append, List.length_append]
      exact h1
    · rcases hat with hat | hat
      · exact .inl hat
      · exact .inr ⟨_, hat, by simp⟩
/-- 'out = append(out, p)' on a list of pairs (impl.Point) of the call's own. -/
theorem wpList_append_P {w : World} {ops : Array Oper} {rest : List Oper} {o : Oper} {a : Act} {Q : Exit → Act → World → Prop} (hgd : o.guard = none) (s x : Operand)
    (ho : o.op = .call { callee := .builtin .append, args := #[s, x], argTypes := #[164, 164] })
    (B : Nat) (v : Value) (ps : List (Int × Int)) (hs : a.eval s = v) (hown : PL w 124 B v ps) (x0 y0 : Int) (hx : a.eval x = .slice (some ⟨w.heap.size, 0, none⟩) 1 1)
    (hlen : ps.length ≤ 1000000) (hB : B ≤ w.heap.size)
    (h : ∀ v' w', PL w' 124 B v' (ps ++ [(x0, y0)]) → w.grownBy w' v.ownBlock → Below B w w' → (v'.ownBlock = v.ownBlock ∨ ∃ g, v'.ownBlock = some g ∧ w.heap.size ≤ g) → wpList Tryz.prog ops Q rest (a.put o.dst v') w') :
    wpList Tryz.prog ops Q (o :: rest) a (w.alloc (.cells #[.int .i64 x0, .int .i64 y0] 124)) := by
  obtain ⟨i, hi, hz, hsz, hby⟩ := info_parts infoPoint
  refine wpList_append_own_at _ hgd s x 164 ho B 124 i _ 2 16 Tryz.underlying164 hi hz hsz hby rfl (by decide) v ps.length (flatP ps) hs (World.ownsRow.alloc hown _) ⟨w.heap.size, 0, none⟩ 1 1
    [.int .i64 x0, .int .i64 y0] hx rfl ?_ ?_ (by simp only [maxLen]; omega) (by omega) (by simp; omega) ?_
  · intro j u hu
    rw [Addr.add_lit, World.cell?_alloc_new]
    simpa using hu
  · intro u hu
    simp at hu
    rcases hu with rfl | rfl <;> rfl
  · intro v' w' h1 h2 _ hat
    have h3 := grown_of_alloc h2
    refine h v' w' ?_ h3 (below_own hown h3 hB) ?_
    · unfold PL
      rw [flatP_append, List.length_append]
      exact h1
    · rcases hat with hat | hat
      · exact .inl hat
      · exact .inr ⟨_, hat, by simp⟩

end Go.Proofs.YtemeegpmdhgocaaGreat

namespace Go.Proofs.YtemeegpmdhgocaaGreat
open Go.RowKit

/-- The number of the step (0 .. 8) at which m is looked at from j. -/
def posN (j m : Nat) : Int := (((m / 80 : Nat) : Int) - ((j / 80 : Nat) : Int) + 1) * 3 + (((m % 80 : Nat) : Int) - ((j % 80 : Nat) : Int) + 1)
/-- The neighbours of j that the first k steps look at are in the list. -/
def Vis (L : Gr) (qs : List Nat) (j : Nat) (k : Int) : Prop := ∀ m : Nat, m < 6400 → nbr j m → L m = true → posN j m < k → m ∈ qs
theorem vis_zero (L : Gr) (qs : List Nat) (j : Nat) : Vis L qs j 0 := by
  intro m _ hn _ hp
  unfold posN at hp
  unfold nbr at hn
  omega
theorem vis_nine {L : Gr} {qs : List Nat} {j : Nat} (h : Vis L qs j 9) : ∀ m, nbr j m → m < 6400 → L m = true → m ∈ qs := by
  intro m hn hm hL
  refine h m hm hn hL ?_
  unfold posN
  unfold nbr at hn
  omega
theorem vis_next {L : Gr} {qs : List Nat} {j : Nat} {k : Int} (h : Vis L qs j k) (hk : ∀ m, m < 6400 → nbr j m → L m = true → posN j m = k → m ∈ qs) : Vis L qs j (k + 1) := by
  intro m hm hn hL hp
  by_cases he : posN j m = k
  · exact hk m hm hn hL he
  · exact h m hm hn hL (by omega)
theorem vis_put {L : Gr} {qs : List Nat} {j : Nat} {k : Int} (h : Vis L qs j k) (m : Nat) : Vis L (qs ++ [m]) j k := fun p hp hn hL hk => List.mem_append_left _ (h p hp hn hL hk)
theorem vis_pos {j m : Nat} {a b : Int} (hn : nbr j m) (ha : -1 ≤ a ∧ a ≤ 1) (hb : -1 ≤ b ∧ b ≤ 1) (hp : posN j m = (a + 1) * 3 + (b + 1)) : ((m / 80 : Nat) : Int) = ((j / 80 : Nat) : Int) + a ∧ ((m % 80 : Nat) : Int) = ((j % 80 : Nat) : Int) + b ∧ (a = 0 ∨ b = 0) := by
  unfold posN at hp
  unfold nbr at hn
  omega
/-- The step leads to both sides, or off the chip: nothing to do. -/
theorem vis_off {L : Gr} {qs : List Nat} {j : Nat} {a b : Int} (h : Vis L qs j ((a + 1) * 3 + (b + 1))) (ha : -1 ≤ a ∧ a ≤ 1) (hb : -1 ≤ b ∧ b ≤ 1)
    (ho : (b ≠ 0 ∧ a ≠ 0) ∨ ((j % 80 : Nat) : Int) + b < 0 ∨ ((j / 80 : Nat) : Int) + a < 0 ∨ 80 ≤ ((j % 80 : Nat) : Int) + b ∨ 80 ≤ ((j / 80 : Nat) : Int) + a) : Vis L qs j ((a + 1) * 3 + (b + 1) + 1) := by
  refine vis_next h fun m hm hn hL hp => ?_
  obtain ⟨h1, h2, h3⟩ := vis_pos hn ha hb hp
  omega
/-- The step leads to a cell c of the chip that is not in the set, or in the list. -/
theorem vis_on {L : Gr} {qs : List Nat} {j c : Nat} {a b : Int} (h : Vis L qs j ((a + 1) * 3 + (b + 1))) (ha : -1 ≤ a ∧ a ≤ 1) (hb : -1 ≤ b ∧ b ≤ 1)
    (hx : ((c % 80 : Nat) : Int) = ((j % 80 : Nat) : Int) + b) (hy : ((c / 80 : Nat) : Int) = ((j / 80 : Nat) : Int) + a) (hc : L c = false ∨ c ∈ qs) : Vis L qs j ((a + 1) * 3 + (b + 1) + 1) := by
  refine vis_next h fun m hm hn hL hp => ?_
  obtain ⟨h1, h2, h3⟩ := vis_pos hn ha hb hp
  have e : m = c := by omega
  subst e
  rcases hc with hc | hc
  · rw [hL] at hc
    exact absurd hc (by simp)
  · exact hc
theorem on_nbr {qs : List Nat} {j c : Nat} {a b : Int} (hj : j ∈ qs) (ha : -1 ≤ a ∧ a ≤ 1) (hb : -1 ≤ b ∧ b ≤ 1) (hz : a = 0 ∨ b = 0)
    (hx : ((c % 80 : Nat) : Int) = ((j % 80 : Nat) : Int) + b) (hy : ((c / 80 : Nat) : Int) = ((j / 80 : Nat) : Int) + a) (hnew : setL qs c = false) : nbr j c := by
  have hne : c ≠ j := by
    rintro rfl
    rw [(setL_iff qs c).2 hj] at hnew
    exact absurd hnew (by simp)
  unfold nbr
  omega
/-- The cell that a step leads to. -/
theorem step_cell {x y : Int} (hx : 0 ≤ x ∧ x < 80) (hy : 0 ≤ y ∧ y < 80) : ∃ c : Nat, c < 6400 ∧ ((c % 80 : Nat) : Int) = x ∧ ((c / 80 : Nat) : Int) = y ∧ (c : Int) = y * 80 + x :=
  ⟨(y * 80 + x).toNat, by omega, by omega, by omega, by omega⟩

end Go.Proofs.YtemeegpmdhgocaaGreat

namespace Go.Proofs.YtemeegpmdhgocaaGreat
open Go.RowKit

/-- The side over which m is looked at from j. -/
def dirN (j m : Nat) : Nat := if m / 80 = j / 80 then (if j % 80 < m % 80 then 0 else 1) else (if j / 80 < m / 80 then 2 else 3)
def dirX (d : Nat) : Int := if d = 0 then 1 else if d = 1 then -1 else 0
def dirY (d : Nat) : Int := if d = 2 then 1 else if d = 3 then -1 else 0
/-- The neighbours of j over the first k sides are in the list. -/
def VisD (L : Gr) (qs : List Nat) (j k : Nat) : Prop := ∀ m : Nat, m < 6400 → nbr j m → L m = true → dirN j m < k → m ∈ qs
theorem visd_zero (L : Gr) (qs : List Nat) (j : Nat) : VisD L qs j 0 := fun _ _ _ _ hp => absurd hp (by omega)
theorem dirN_lt (j m : Nat) : dirN j m < 4 := by unfold dirN; split <;> split <;> omega
theorem visd_four {L : Gr} {qs : List Nat} {j : Nat} (h : VisD L qs j 4) : ∀ m, nbr j m → m < 6400 → L m = true → m ∈ qs := fun m hn hm hL => h m hm hn hL (dirN_lt j m)
theorem visd_next {L : Gr} {qs : List Nat} {j k : Nat} (h : VisD L qs j k) (hk : ∀ m, m < 6400 → nbr j m → L m = true → dirN j m = k → m ∈ qs) : VisD L qs j (k + 1) := by
  intro m hm hn hL hp
  by_cases he : dirN j m = k
  · exact hk m hm hn hL he
  · exact h m hm hn hL (by omega)
theorem visd_put {L : Gr} {qs : List Nat} {j k : Nat} (h : VisD L qs j k) (m : Nat) : VisD L (qs ++ [m]) j k := fun p hp hn hL hk => List.mem_append_left _ (h p hp hn hL hk)
theorem dir_pos {j m : Nat} (hn : nbr j m) : ((m % 80 : Nat) : Int) = ((j % 80 : Nat) : Int) + dirX (dirN j m) ∧ ((m / 80 : Nat) : Int) = ((j / 80 : Nat) : Int) + dirY (dirN j m) := by
  unfold nbr at hn
  unfold dirN
  split
  · split
    · simp only [dirX, dirY]; simp; omega
    · simp only [dirX, dirY]; simp; omega
  · split
    · simp only [dirX, dirY]; simp; omega
    · simp only [dirX, dirY]; simp; omega
/-- The cell at a place of the chip. -/
theorem ix_of {m : Nat} {x y : Int} (hm : m < 6400) (hx : ((m % 80 : Nat) : Int) = x + 40) (hy : ((m / 80 : Nat) : Int) = y + 40) : onC x y = true ∧ (ix x y).toNat = m := by
  rw [onC_iff]
  unfold ix
  omega
theorem visd_off {L : Gr} {qs : List Nat} {j k : Nat} {x y : Int} (h : VisD L qs j k) (hx : x = ((j % 80 : Nat) : Int) - 40 + dirX k) (hy : y = ((j / 80 : Nat) : Int) - 40 + dirY k) (ho : hasG L x y = false ∨ (ix x y).toNat ∈ qs) : VisD L qs j (k + 1) := by
  refine visd_next h fun m hm hn hL hp => ?_
  obtain ⟨h1, h2⟩ := dir_pos hn
  rw [hp] at h1 h2
  obtain ⟨h3, h4⟩ := ix_of (m := m) (x := x) (y := y) hm (by omega) (by omega)
  rcases ho with ho | ho
  · rw [hasG_on h3, h4, hL] at ho
    cases ho
  · rw [h4] at ho
    exact ho
theorem dir_nbr {j k : Nat} {x y : Int} (hk : k < 4) (hx : x = ((j % 80 : Nat) : Int) - 40 + dirX k) (hy : y = ((j / 80 : Nat) : Int) - 40 + dirY k) (hc : onC x y = true) : nbr j (ix x y).toNat ∧ (ix x y).toNat < 6400 := by
  rw [onC_iff] at hc
  have hk4 : k = 0 ∨ k = 1 ∨ k = 2 ∨ k = 3 := by omega
  unfold nbr ix
  rcases hk4 with rfl | rfl | rfl | rfl
  all_goals
    simp [dirX, dirY] at hx hy
    subst hx hy
    omega

end Go.Proofs.YtemeegpmdhgocaaGreat
