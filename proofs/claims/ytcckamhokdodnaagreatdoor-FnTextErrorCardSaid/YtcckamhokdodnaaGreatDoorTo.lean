/- Contracts: the laws' own copies of their arguments, and the count of what is left. Condition: a list has at most 1048576 elements. -/
import Derived.Test.YtcckamhokdodnaaGreatDoorDrawK
import Derived.Test.YtcckamhokdodnaaGreatDoorCmp
namespace Go.Proofs.YtcckamhokdodnaaGreatDoor
open Go.RowKit

theorem flatR_zeros (n : Nat) : (madeCells #[.int .i64 0, .int .i64 0, .int .i64 0, .int .i64 0] (n * 4)).toList = flatR (List.replicate n ⟨0, 0, 0, 0⟩) := by
  have h : ∀ n, flatR (List.replicate n ⟨0, 0, 0, 0⟩) = List.replicate (n * 4) (Value.int .i64 0) := by
    intro n
    induction n with
    | zero => rfl
    | succ n ih =>
      have e : (n + 1) * 4 = n * 4 + 4 := by omega
      rw [List.replicate_succ, show flatR ((⟨0, 0, 0, 0⟩ : Rc) :: List.replicate n ⟨0, 0, 0, 0⟩) = Rc.vals ⟨0, 0, 0, 0⟩ ++ flatR (List.replicate n ⟨0, 0, 0, 0⟩) from rfl, ih, e, Nat.add_comm, ← List.replicate_append_replicate]
      rfl
  rw [h]
  apply List.ext_getElem?
  intro j
  simp only [madeCells, Array.toList_map, Array.toList_range, List.getElem?_map, List.getElem?_replicate]
  by_cases hj : j < n * 4
  · rw [List.getElem?_range hj, if_pos hj]
    simp only [Option.map_some, Option.some.injEq]
    have h4 : j % 4 < 4 := Nat.mod_lt _ (by omega)
    show (#[Value.int .i64 0, .int .i64 0, .int .i64 0, .int .i64 0] : Array Value)[j % 4]! = _
    generalize j % 4 = q at h4
    match q, h4 with
    | 0, _ => rfl
    | 1, _ => rfl
    | 2, _ => rfl
    | 3, _ => rfl
  · rw [if_neg hj, List.getElem?_eq_none (by simp; omega)]
    rfl

theorem RL.some4 {w : World} {B g n c : Nat} {rs : List Rc} (h : RL w B (.slice (some ⟨g, 0, none⟩) n c) rs) {k : Nat} (hk : k < rs.length) : ∃ x0 y0 x1 y1 : Int,
    w.cell? ⟨g, k * 4, none⟩ = some (.int .i64 x0) ∧ w.cell? ⟨g, k * 4 + 1, none⟩ = some (.int .i64 y0) ∧ w.cell? ⟨g, k * 4 + 2, none⟩ = some (.int .i64 x1) ∧ w.cell? ⟨g, k * 4 + 3, none⟩ = some (.int .i64 y1) := by
  obtain ⟨g', x0, y0, x1, y1, hA, _, _, h0, h1, h2, h3⟩ := h.elem hk
  simp only [Option.some.injEq, Addr.mk.injEq, and_true] at hA
  subst hA
  exact ⟨x0, y0, x1, y1, h0, h1, h2, h3⟩

/-- The first k elements are laid. -/
def laidR (rs : List Rc) (k : Nat) : List Rc := rs.take k ++ List.replicate (rs.length - k) ⟨0, 0, 0, 0⟩
theorem laidR_length (rs : List Rc) (k : Nat) (h : k ≤ rs.length) : (laidR rs k).length = rs.length := by simp [laidR]; omega
theorem laidR_step {rs : List Rc} {k : Nat} {r : Rc} (h : rs[k]? = some r) : (laidR rs k).set k r = laidR rs (k + 1) := by
  have hk : k < rs.length := (List.getElem?_eq_some_iff.1 h).1
  have hl : (rs.take k).length = k := by rw [List.length_take]; omega
  have e : rs.length - k = (rs.length - (k + 1)) + 1 := by omega
  unfold laidR
  rw [List.set_append_right _ _ (by omega), hl, Nat.sub_self, e, List.replicate_succ, List.set_cons_zero, List.take_add_one, h, List.append_assoc]
  rfl

end Go.Proofs.YtcckamhokdodnaaGreatDoor
