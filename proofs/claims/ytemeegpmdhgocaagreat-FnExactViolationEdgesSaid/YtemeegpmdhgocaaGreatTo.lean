/- Contracts: the laws' own copies of their arguments, and the count of what is left. Condition: a list has at most 1048576 elements. -/
import Derived.Test.YtemeegpmdhgocaaGreatDrawK
import Derived.Test.YtemeegpmdhgocaaGreatCmp
namespace Go.Proofs.YtemeegpmdhgocaaGreat
open Go.RowKit

/-- toRect. -/
theorem toRect_any (x0 y0 x1 y1 : Int) (w : World) : Calls Tryz.prog 54 #[.agg #[.int .i64 x0, .int .i64 y0, .int .i64 x1, .int .i64 y1]] w fun e w' => e = .returned (.agg #[.int .i64 x0, .int .i64 y0, .int .i64 x1, .int .i64 y1]) ∧ Below w.heap.size w w' := by
  go_enter Tryz.func54, Tryz.ntmps54
  go_wp2
  refine bodyPost_ret (v := .agg #[.int .i64 x0, .int .i64 y0, .int .i64 x1, .int .i64 y1]) (by simp [results, Tryz.results54, go_sem]) rfl ⟨rfl, ?_⟩
  exact ((((Below.refl _ _).alloc (Nat.le_refl _) _).alloc (by simp) _).alloc (by simp; omega) _)

/-- szRectS: there is room. -/
theorem szRectS_yes (A : Option Addr) (n c : Nat) (left : Int) (w : World) (h0 : (n : Int) ≤ left) (h1 : left ≤ 1048576) :
    Calls Tryz.prog 21 #[.slice A n c, .int .i64 left] w fun e w' => e = .returned (.int .i64 (left - n)) ∧ w = w' := by
  have h2 : ¬ (left - n < 0) := by omega
  go_enter Tryz.func21, Tryz.ntmps21
  go_wp2
  go_ret
  exact ⟨rfl, rfl⟩
/-- .. there is none. -/
theorem szRectS_no (A : Option Addr) (n c : Nat) (left : Int) (w : World) (h0 : left < (n : Int)) (h1 : 0 ≤ left) (hn : n ≤ maxLen) :
    Calls Tryz.prog 21 #[.slice A n c, .int .i64 left] w fun e w' => e = .returned (.int .i64 (-1)) ∧ w = w' := by
  have h2 : left - n < 0 := by omega
  unfold maxLen at hn
  go_enter Tryz.func21, Tryz.ntmps21
  go_wp2
  go_ret
  exact ⟨rfl, rfl⟩

theorem flatR_zeros (n : Nat) : (madeCells #[.int .i64 0, .int .i64 0, .int .i64 0, .int .i64 0] (n * 4)).toList = flatR (List.replicate n ⟨0, 0, 0, 0⟩) := by
  have h : ∀ n, flatR (List.replicate n ⟨0, 0, 0, 0⟩) = List.replicate (n * 4) (Value.int .i64 0) := by
    intro n
    induction n with
    | zero => rfl
    | succ n ih =>
      have e : (n + 1) * 4 = n * 4 + 4 := by omega
      rw [List.replicate_succ, show flatR ((⟨0, 0, 0, 0⟩ : Rc) :: List.replicate n ⟨0, 0, 0, 0⟩) = Rc.vals ⟨0, 0, 0, 0⟩ ++ flatR (List.replicate n ⟨0, 0, 0, 0⟩) from rfl, ih, e, Nat.add_comm, ← List.replicate_append_replicate]
      rfl
  rw [h]
  apply List.ext_getElem?
  intro j
  simp only [madeCells, Array.toList_map, Array.toList_range, List.getElem?_map, List.getElem?_replicate]
  by_cases hj : j < n * 4
  · rw [List.getElem?_range hj, if_pos hj]
    simp only [Option.map_some, Option.some.injEq]
    have h4 : j % 4 < 4 := Nat.mod_lt _ (by omega)
    show (#[Value.int .i64 0, .int .i64 0, .int .i64 0, .int .i64 0] : Array Value)[j % 4]! = _
    generalize j % 4 = q at h4
    match q, h4 with
    | 0, _ => rfl
    | 1, _ => rfl
    | 2, _ => rfl
    | 3, _ => rfl
  · rw [if_neg hj, List.getElem?_eq_none (by simp; omega)]
    rfl

theorem RL.some4 {w : World} {B g n c : Nat} {rs : List Rc} (h : RL w B (.slice (some ⟨g, 0, none⟩) n c) rs) {k : Nat} (hk : k < rs.length) : ∃ x0 y0 x1 y1 : Int,
    w.cell? ⟨g, k * 4, none⟩ = some (.int .i64 x0) ∧ w.cell? ⟨g, k * 4 + 1, none⟩ = some (.int .i64 y0) ∧ w.cell? ⟨g, k * 4 + 2, none⟩ = some (.int .i64 x1) ∧ w.cell? ⟨g, k * 4 + 3, none⟩ = some (.int .i64 y1) := by
  obtain ⟨g', x0, y0, x1, y1, hA, _, _, h0, h1, h2, h3⟩ := h.elem hk
  simp only [Option.some.injEq, Addr.mk.injEq, and_true] at hA
  subst hA
  exact ⟨x0, y0, x1, y1, h0, h1, h2, h3⟩

/-- The first k elements are laid. -/
def laidR (rs : List Rc) (k : Nat) : List Rc := rs.take k ++ List.replicate (rs.length - k) ⟨0, 0, 0, 0⟩
theorem laidR_length (rs : List Rc) (k : Nat) (h : k ≤ rs.length) : (laidR rs k).length = rs.length := by simp [laidR]; omega
theorem laidR_step {rs : List Rc} {k : Nat} {r : Rc} (h : rs[k]? = some r) : (laidR rs k).set k r = laidR rs (k + 1) := by
  have hk : k < rs.length := (List.getElem?_eq_some_iff.1 h).1
  have hl : (rs.take k).length = k := by rw [List.length_take]; omega
  have e : rs.length - k = (rs.length - (k + 1)) + 1 := by omega
  unfold laidR
  rw [List.set_append_right _ _ (by omega), hl, Nat.sub_self, e, List.replicate_succ, List.set_cons_zero, List.take_add_one, h, List.append_assoc]
  rfl

set_option maxHeartbeats 400000 in
set_option maxRecDepth 100000 in
/-- toRectS. -/
theorem toRectS_any (A : Option Addr) (n c : Nat) (rs : List Rc) (w : World) (hA : ArgR w A n rs) (hn : n ≤ 1048576) :
    Calls Tryz.prog 28 #[.slice A n c] w fun e w' => ∃ u, e = .returned u ∧ RL w' w.heap.size u rs ∧ Below w.heap.size w w' := by
  obtain rfl := hA.len
  obtain ⟨i0, hi0, hz0, hsz0, hby0⟩ := info_parts infoRect
  go_enter Tryz.func28, Tryz.ntmps28
  go_wp2_with (at_make; refine wpList_make_full _ rfl _ _ 41 rfl w.heap.size 88 i0 _ 4 Tryz.underlying41 hi0 hz0 hsz0 _ _ _ _ rs.length rfl rfl rfl rfl (by rw [hby0]; omega) (by simp only [maxLen]; omega) (Nat.le_refl _) ?_)
  intro w1 ho1 hg1
  have hb1 : Below w.heap.size w w1 := (Below.refl _ _).grown hg1 (Nat.le_refl _) (fun k hk => by cases hk)
  have hR1 : RL w1 w.heap.size (.slice (some ⟨w.heap.size, 0, none⟩) rs.length rs.length) (laidR rs 0) := by
    unfold RL
    have e : laidR rs 0 = List.replicate rs.length ⟨0, 0, 0, 0⟩ := by simp [laidR]
    rw [e, List.length_replicate, ← flatR_zeros]
    exact ho1
  clear ho1 hg1 hi0 hz0 hsz0 hby0
  go_wp2
  go_loopw [4] (fun iv wr => ∃ k : Nat, k ≤ rs.length ∧ iv = .int .i64 k ∧ RL wr w.heap.size (.slice (some ⟨w.heap.size, 0, none⟩) rs.length rs.length) (laidR rs k) ∧ Below w.heap.size w wr) (fun iv _ => rs.length - (intOf iv).toNat)
  case atStart => exact ⟨0, Nat.zero_le _, rfl, hR1, hb1⟩
  case round =>
    obtain ⟨k, hk, rfl, hR, hb⟩ := hrel
    clear hR1 hb1
    by_cases hlt : k < rs.length
    · obtain ⟨b, off, x0, y0, x1, y1, rfl, hr, hbl, f0, f1, f2, f3⟩ := (hA.on hb).elem k hlt
      have Hr := Lib.hid hr
      clear hr
      have hkl : k < (laidR rs k).length := by rw [laidR_length rs k hk]; exact hlt
      go_wp2_with (go_at_call 54; refine (toRect_any _ _ _ _ _).mono ?_; rintro e w2 ⟨rfl, hb2⟩; obtain ⟨q0, q1, q2, q3, z0, z1, z2, z3⟩ := (hR.on hb2).some4 hkl; have z := (hR.on hb2).frozen; have t0 := z (k * 4); have t1 := z (k * 4 + 1); have t2 := z (k * 4 + 2); have t3 := z (k * 4 + 3); clear z)
      refine ⟨⟨k + 1, by omega, by go_num, ?_, ?_⟩, by simp [intOf]; omega⟩
      · rw [← laidR_step Hr.out]
        exact (hR.on hb2).set4 hkl x0 y0 x1 y1
      · have s1 := hb.size
        exact ((((hb.trans (hb2.mono s1)).setCell (Nat.le_refl _) _).setCell (Nat.le_refl _) _).setCell (Nat.le_refl _) _).setCell (Nat.le_refl _) _
    · go_wp2
      go_ret
      have : k = rs.length := by omega
      subst this
      have e : laidR rs rs.length = rs := by simp [laidR]
      rw [e] at hR
      exact ⟨_, rfl, hR, hb⟩

end Go.Proofs.YtemeegpmdhgocaaGreat
