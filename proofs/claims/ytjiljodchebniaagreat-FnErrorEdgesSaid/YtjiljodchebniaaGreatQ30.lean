/- Contract: the program's FacingEdges. Condition: a region in memory. Contracts: the laws' own copies of their arguments, and the count of what is left. Condition: a list has at most 1048576 elements. What the laws' walks share. No conditions. -/
import Derived.Test.YtjiljodchebniaaGreatQ29
import Derived.Test.YtjiljodchebniaaGreatQ07
import Derived.Test.YtjiljodchebniaaGreatQ08

namespace Go.Proofs.YtjiljodchebniaaGreat
open Go.RowKit

set_option maxHeartbeats 800000 in
set_option maxRecDepth 100000 in
/-- FacingEdges of the program. -/
theorem face_impl (v : Value) (rs : List Rc) (d : Int) (w : World) (hv : RL w 0 v rs) (hr : isReg rs = true) (hd : 1 ≤ d ∧ d ≤ 80) :
    Calls Tryz.prog 10 #[v, .int .i64 d, .bool true] w fun e w' => ∃ u, e = .returned u ∧ PEL w' w.heap.size u (srtP (faceL (cellsG rs) d)) ∧ Below w.heap.size w w' := by
  have HR := Lib.hid hr
  have HI : Hid (inB 1 d 80 = true) := Lib.hid (by unfold inB; simpa using hd)
  clear hr
  go_enter Tryz.func10, Tryz.ntmps10
  go_wp2_with (first
    | (go_at_call 22; (with_reducible refine (isRegion_any v rs _ hv).mono ?_); rintro e w1 ⟨he, hb1⟩; rw [HR.out] at he; subst he; have hv1 := hv.on hb1)
    | (go_at_call 23; refine (within_any _ _ _ _).mono ?_; rintro e w2 ⟨he, rfl⟩; rw [HI.out] at he; subst he)
    | (go_at_call 24; (with_reducible refine (cellsOf_any v rs _ hv1).mono ?_); rintro e w3 ⟨g, rfl, hg, hG, hb3⟩; have hb4 := hb1.trans (hb3.mono hb1.size))
    | (go_at_call 25; (with_reducible refine (facing_any g (cellsG rs) d _ hG).mono ?_); rintro e w5 ⟨u, rfl, hP, hb5⟩))
  go_ret
  exact ⟨u, rfl, hP.less hb4.size, hb4.trans (hb5.mono hb4.size)⟩

end Go.Proofs.YtjiljodchebniaaGreat

namespace Go.Proofs.YtjiljodchebniaaGreat
open Go.RowKit

theorem flatR_zeros (n : Nat) : (madeCells #[.int .i64 0, .int .i64 0, .int .i64 0, .int .i64 0] (n * 4)).toList = flatR (List.replicate n ⟨0, 0, 0, 0⟩) := by
  have h : ∀ n, flatR (List.replicate n ⟨0, 0, 0, 0⟩) = List.replicate (n * 4) (Value.int .i64 0) := by
    intro n
    induction n with
    | zero => rfl
    | succ n ih =>
      have e : (n + 1) * 4 = n * 4 + 4 := by omega
      rw [List.replicate_succ, show flatR ((⟨0, 0, 0, 0⟩ : Rc) :: List.replicate n ⟨0, 0, 0, 0⟩) = Rc.vals ⟨0, 0, 0, 0⟩ ++ flatR (List.replicate n ⟨0, 0, 0, 0⟩) from rfl, ih, e, Nat.add_comm, ← List.replicate_append_replicate]
      rfl
  rw [h]
  apply List.ext_getElem?
  intro j
  simp only [madeCells, Array.toList_map, Array.toList_range, List.getElem?_map, List.getElem?_replicate]
  by_cases hj : j < n * 4
  · rw [List.getElem?_range hj, if_pos hj]
    simp only [Option.map_some, Option.some.injEq]
    have h4 : j % 4 < 4 := Nat.mod_lt _ (by omega)
    show (#[Value.int .i64 0, .int .i64 0, .int .i64 0, .int .i64 0] : Array Value)[j % 4]! = _
    generalize j % 4 = q at h4
    match q, h4 with
    | 0, _ => rfl
    | 1, _ => rfl
    | 2, _ => rfl
    | 3, _ => rfl
  · rw [if_neg hj, List.getElem?_eq_none (by simp; omega)]
    rfl

theorem RL.some4 {w : World} {B g n c : Nat} {rs : List Rc} (h : RL w B (.slice (some ⟨g, 0, none⟩) n c) rs) {k : Nat} (hk : k < rs.length) : ∃ x0 y0 x1 y1 : Int,
    w.cell? ⟨g, k * 4, none⟩ = some (.int .i64 x0) ∧ w.cell? ⟨g, k * 4 + 1, none⟩ = some (.int .i64 y0) ∧ w.cell? ⟨g, k * 4 + 2, none⟩ = some (.int .i64 x1) ∧ w.cell? ⟨g, k * 4 + 3, none⟩ = some (.int .i64 y1) := by
  obtain ⟨g', x0, y0, x1, y1, hA, _, _, h0, h1, h2, h3⟩ := h.elem hk
  simp only [Option.some.injEq, Addr.mk.injEq, and_true] at hA
  subst hA
  exact ⟨x0, y0, x1, y1, h0, h1, h2, h3⟩

/-- The first k elements are laid. -/
def laidR (rs : List Rc) (k : Nat) : List Rc := rs.take k ++ List.replicate (rs.length - k) ⟨0, 0, 0, 0⟩
theorem laidR_length (rs : List Rc) (k : Nat) (h : k ≤ rs.length) : (laidR rs k).length = rs.length := by simp [laidR]; omega
theorem laidR_step {rs : List Rc} {k : Nat} {r : Rc} (h : rs[k]? = some r) : (laidR rs k).set k r = laidR rs (k + 1) := by
  have hk : k < rs.length := (List.getElem?_eq_some_iff.1 h).1
  have hl : (rs.take k).length = k := by rw [List.length_take]; omega
  have e : rs.length - k = (rs.length - (k + 1)) + 1 := by omega
  unfold laidR
  rw [List.set_append_right _ _ (by omega), hl, Nat.sub_self, e, List.replicate_succ, List.set_cons_zero, List.take_add_one, h, List.append_assoc]
  rfl

end Go.Proofs.YtjiljodchebniaaGreat

namespace Go.Proofs.YtjiljodchebniaaGreat
open Go.RowKit

/-- A row from block N on, kept while one below N is written. -/
theorem own_near {w w' : World} {B N n size : Nat} {e : TypeId} {v u : Value} {xs : List Value} (h : w.ownsRow B e size v n xs) (hN : ∀ g, v.ownBlock = some g → N ≤ g) (hg : w.grownBy w' u.ownBlock) (hu : ∀ g, u.ownBlock = some g → g < N) : w'.ownsRow B e size v n xs := by
  refine h.kept hg ?_
  cases hv : v.ownBlock with
  | none => exact .inl rfl
  | some g =>
    right
    intro e
    have h1 := hN g hv
    have h2 := hu g e.symm
    omega

theorem RL.far {w w' : World} {B N : Nat} {v u : Value} {rs : List Rc} (h : RL w B v rs) (hN : ∀ g, v.ownBlock = some g → g < N) (hg : w.grownBy w' u.ownBlock) (hu : ∀ g, u.ownBlock = some g → N ≤ g) : RL w' B v rs := own_far h hN hg hu
theorem RL.near {w w' : World} {B N : Nat} {v u : Value} {rs : List Rc} (h : RL w B v rs) (hN : ∀ g, v.ownBlock = some g → N ≤ g) (hg : w.grownBy w' u.ownBlock) (hu : ∀ g, u.ownBlock = some g → g < N) : RL w' B v rs := own_near h hN hg hu

end Go.Proofs.YtjiljodchebniaaGreat
