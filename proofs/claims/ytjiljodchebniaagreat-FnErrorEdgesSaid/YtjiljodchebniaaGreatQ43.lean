/- Contract: slices.Compact of edges. Condition: a list of edges in memory. Contract: the program's ViolationEdges. Conditions: a list of lists, a list of rules, a region in memory. -/
import Derived.Test.YtjiljodchebniaaGreatQ10
import Derived.Test.YtjiljodchebniaaGreatQ18
import Derived.Lib.SliceRun
import Derived.BigQuiet
import Derived.BigFrame
import Derived.Test.YtjiljodchebniaaGreatQ42
import Derived.Test.YtjiljodchebniaaGreatQ28

namespace Go.Proofs.YtjiljodchebniaaGreat
open Go.RowKit

def zsE (n : Nat) : List Value := (Builtin.zeroCells #[.int .i64 0, .int .i64 0, .int .i64 0, .int .i64 0] n).toList
theorem zsE_len (n : Nat) : (zsE n).length = n * 4 := by simp [zsE, Builtin.zeroCells]
theorem zsE_one (n : Nat) : ∀ v ∈ zsE n, v.oneCell' = true := by
  intro v hv
  simp only [zsE, Builtin.zeroCells, Array.toList_map, List.mem_map] at hv
  obtain ⟨i, -, rfl⟩ := hv
  have h4 : i % 4 < 4 := Nat.mod_lt _ (by decide)
  have : i % 4 = 0 ∨ i % 4 = 1 ∨ i % 4 = 2 ∨ i % 4 = 3 := by omega
  show (#[Value.int .i64 0, .int .i64 0, .int .i64 0, .int .i64 0][i % 4]!).oneCell' = true
  rcases this with h | h | h | h <;> rw [h] <;> rfl
theorem zeroEdge (w : World) : (zeroValue 48).run Tryz.prog w = .ok (.agg #[.int .i64 0, .int .i64 0, .int .i64 0, .int .i64 0]) w := by kernel_rfl
theorem run_clear_E (w : World) (ty : TypeId) (g o n c : Nat) (hn : 0 < n) (hc : ∀ j, j < n * 4 → (w.cell? ⟨g, o + j, none⟩).isSome = true) (hf : ∀ j, j < n * 4 → w.frozen? ⟨g, o + j, none⟩ = false) :
    (Builtin.clear_ #[41] ty #[.slice (some ⟨g, o, none⟩) n c]).run Tryz.prog w = .ok (.tuple #[]) (w.setCells g o (zsE n)) := by
  have hst := run_storeCells_cells (P := Tryz.prog) g o (zsE n) 0 w (by simpa [zsE_len] using hc) (by simpa [zsE_len] using hf) (zsE_one n)
  simp only [Nat.add_zero] at hst
  have hzc : (Builtin.zeroCells (Value.agg #[.int .i64 0, .int .i64 0, .int .i64 0, .int .i64 0]).cells n).toList = zsE n := rfl
  obtain ⟨m, rfl⟩ : ∃ m, n = m + 1 := ⟨n - 1, by omega⟩
  simp [Builtin.clear_, run_underlying Tryz.underlying41, hzc, hst]
/-- Cells behind the list's own are set: the list stays. -/
theorem EL.behind {B g k c : Nat} {L : List Ed} : ∀ (vs : List Value) (o : Nat) {w : World}, EL w B (.slice (some ⟨g, 0, none⟩) k c) L → L.length * 4 ≤ o → EL (w.setCells g o vs) B (.slice (some ⟨g, 0, none⟩) k c) L
  | [], _, _, h, _ => h
  | v :: r, o, w, h, ho => by
    obtain ⟨_, _, en, -, -, -⟩ := h.form
    simp only [Value.slice.injEq] at en
    obtain ⟨-, rfl, -⟩ := en
    refine EL.behind r (o + 1) ?_ (by omega)
    have h1 := (World.ownsRow.stored h o v).1
    rw [List.set_eq_of_length_le (by rw [flatE_length]; exact ho)] at h1
    exact h1

theorem below_setE {B g : Nat} {a : World} (hg : B ≤ g) : ∀ (vs : List Value) (o : Nat) {w : World}, Below B a w → Below B a (w.setCells g o vs)
  | [], _, _, h => h
  | v :: r, o, _, h => below_setE hg r (o + 1) (h.setCell (p := ⟨g, o, none⟩) hg v)

/-- The list with its first j elements put together. -/
def midE (l : List Ed) (j : Nat) : List Ed := sqTo l j ++ l.drop (sqTo l j).length
theorem midE_len (l : List Ed) (j : Nat) (hj : j ≤ l.length) : (midE l j).length = l.length := by
  have := sqTo_len l j
  simp [midE]; omega
theorem midE_get (l : List Ed) (j i : Nat) (hi : (sqTo l j).length ≤ i) : (midE l j)[i]? = l[i]? := by
  unfold midE
  rw [List.getElem?_append_right hi, List.getElem?_drop]
  congr 1; omega
theorem midE_same {l : List Ed} {j : Nat} {x : Ed} (h : l[j]? = some x) (hd : 0 < j ∧ l[j - 1]? = some x) : sqTo l (j + 1) = sqTo l j ∧ midE l (j + 1) = midE l j := by
  have h1 : sqTo l (j + 1) = sqTo l j := by rw [sqTo_some h, if_pos hd]
  exact ⟨h1, by unfold midE; rw [h1]⟩
theorem midE_new {l : List Ed} {j : Nat} {x : Ed} (h : l[j]? = some x) (hd : l[j - 1]? ≠ some x) (hk : (sqTo l j).length < l.length) : (sqTo l (j + 1)).length = (sqTo l j).length + 1 ∧ midE l (j + 1) = (midE l j).set (sqTo l j).length x := by
  have h1 : sqTo l (j + 1) = sqTo l j ++ [x] := by rw [sqTo_some h, if_neg fun h2 => hd h2.2]
  refine ⟨by rw [h1]; simp, ?_⟩
  unfold midE
  rw [h1, List.set_append_right _ _ (Nat.le_refl _), Nat.sub_self, List.length_append, List.length_singleton]
  obtain ⟨y, t, hy⟩ : ∃ y t, l.drop (sqTo l j).length = y :: t := by
    cases hd2 : l.drop (sqTo l j).length with
    | nil => have := congrArg List.length hd2; simp at this; omega
    | cons y t => exact ⟨y, t, rfl⟩
  have ht : l.drop ((sqTo l j).length + 1) = t := by rw [← List.drop_drop, hy]; rfl
  rw [ht, hy]
  simp

set_option maxHeartbeats 3200000 in
set_option maxRecDepth 100000 in
/-- slices.Compact. -/
theorem compact_any (g n c : Nat) (l : List Ed) (B : Nat) (w : World) (hv : EL w B (.slice (some ⟨g, 0, none⟩) n c) l) (hl : l.length ≤ 1000000) :
    Calls Tryz.prog 32 #[.slice (some ⟨g, 0, none⟩) n c] w fun e w' => ∃ n', e = .returned (.slice (some ⟨g, 0, none⟩) n' c) ∧ EL w' B (.slice (some ⟨g, 0, none⟩) n' c) (sqz l) ∧ Below B w w' := by
  obtain ⟨_, _, en, hnc, hmx, -⟩ := hv.form
  simp only [Value.slice.injEq] at en
  obtain ⟨-, rfl, rfl⟩ := en
  have hBg := hv.base.1
  have HV := Lib.hid hv
  clear hv
  unfold maxLen at hmx
  go_enter Tryz.func32, Tryz.ntmps32
  by_cases h2 : l.length < 2
  · have hz : ((l.length : Nat) : Int) < 2 := by omega
    have hs : sqz l = l := by
      unfold sqz
      rw [sqTo_all (Nat.le_refl _) (fun i h0 h1 => by omega), List.take_length]
    have HS := Lib.hid hs
    clear hs
    go_wp2
    go_ret
    exact ⟨_, rfl, by rw [HS.out]; exact HV.out, Below.refl _ _⟩
  · have hz : ¬ ((l.length : Nat) : Int) < 2 := by omega
    go_wp2
    go_loopw [3] (fun kv wr => ∃ k : Nat, 1 ≤ k ∧ k ≤ l.length ∧ kv = .int .i64 k ∧ Hid (∀ i, 0 < i → i < k → l[i]? ≠ l[i - 1]?) ∧ Below w.heap.size w wr) (fun kv _ => l.length - (intOf kv).toNat)
    case atStart => exact ⟨1, by omega, by omega, rfl, Lib.hid (fun i h0 h1 => by omega), Below.refl _ _⟩
    case round =>
      obtain ⟨k, hk1, hk, rfl, HN, hb⟩ := hrel
      by_cases hlt : k < l.length
      · have hw := HV.out.on hb
        obtain ⟨g0, x0, y0, x1, y1, hA, hr, hgl, c0, c1, c2, c3⟩ := hw.elem hlt
        simp only [Option.some.injEq, Addr.mk.injEq, and_true] at hA
        subst hA
        obtain ⟨g1, u0, v0, u1, v1, hA1, hr1, -, d0, d1, d2, d3⟩ := hw.elem (k := k - 1) (by omega)
        simp only [Option.some.injEq, Addr.mk.injEq, and_true] at hA1
        subst hA1
        have Hr := Lib.hid hr
        have Hr1 := Lib.hid hr1
        have hltz : (k : Int) < (l.length : Int) := by omega
        have e1 := Go.IntWalk.i64_in ((k : Int) - 1) (by omega)
        have e2 : ((k : Int) - 1).toNat = k - 1 := by omega
        have e3 : 0 ≤ (k : Int) - 1 := by omega
        have e4 : (k : Int) - 1 < (l.length : Int) := by omega
        clear hr hr1 hw
        cases hq : eqEd ⟨x0, y0, x1, y1⟩ ⟨u0, v0, u1, v1⟩ with
        | false =>
          have HQ := Lib.hid ((eqEd_no _ _).1 hq)
          go_wp2
          go_quiet (fail)
          clear hq c0 c1 c2 c3 d0 d1 d2 d3
          go_wp2
          exact ⟨⟨k + 1, by omega, by omega, by go_num, Lib.hid (fun i h0 h1 => by
            by_cases hik : i = k
            · subst hik
              rw [Hr.out, Hr1.out]
              exact fun h9 => HQ.out (Option.some.inj h9)
            · exact HN.out i h0 (by omega)), below_drewN hb nq⟩, by simp [intOf]; omega⟩
        | true =>
          have HQ := Lib.hid ((eqEd_iff _ _).1 hq)
          go_wp2
          go_quiet (fail)
          clear hq c0 c1 c2 c3 d0 d1 d2 d3
          have hd : l[k - 1]? = some ⟨x0, y0, x1, y1⟩ := by rw [Hr1.out, HQ.out]
          have hm0 : sqTo l k = l.take k := sqTo_all hk HN.out
          have hm1 := midE_same Hr.out ⟨by omega, hd⟩
          have hkl : (sqTo l (k + 1)).length = k := by rw [hm1.1, hm0, List.length_take]; omega
          have hml : midE l (k + 1) = l := by rw [hm1.2]; unfold midE; rw [hm0, List.length_take, show min k l.length = k by omega, List.take_append_drop]
          have H1 := Lib.hid (And.intro hkl hml)
          have HW0 := Lib.hid (show EL (wr.drewN nq) B (.slice (some ⟨g, 0, none⟩) l.length c) l from HV.out.on (below_drewN hb nq))
          have HB := Lib.hid (below_drewN hb nq)
          generalize wr.drewN nq = W at *
          clear hd hm0 hm1 hkl hml hb
          go_wp2
          have hBw : B ≤ w.heap.size := by have := HV.out.base; omega
          go_loopw [3, 5] (fun kv iv wr => ∃ i kk : Nat, 1 ≤ i ∧ k + i ≤ l.length ∧ kv = .int .i64 kk ∧ iv = .int .i64 i ∧ kk = (sqTo l (k + i)).length ∧ 1 ≤ kk ∧ kk < k + i ∧ Hid (EL wr B (.slice (some ⟨g, 0, none⟩) l.length c) (midE l (k + i))) ∧ Below B w wr) (fun _ iv _ => l.length - (intOf iv).toNat)
          case atStart => exact ⟨1, k, by omega, by omega, rfl, rfl, H1.out.1.symm, by omega, by omega, Lib.hid (by rw [H1.out.2]; exact HW0.out), HB.out.mono hBw⟩
          case round =>
            obtain ⟨i, kk, hi1, hi, rfl, rfl, hkk, hk2, hk3, HL, hb⟩ := hrel
            have HKK := Lib.hid hkk
            by_cases hil : k + i < l.length
            · have hmlen := midE_len l (k + i) hi
              obtain ⟨g0, p0, q0, p1, q1, hA, hr, hgl2, c0, c1, c2, c3⟩ := HL.out.elem (k := k + i) (by omega)
              simp only [Option.some.injEq, Addr.mk.injEq, and_true] at hA
              subst hA
              obtain ⟨g1, s0, t0, s1, t1, hA1, hr1, -, d0, d1, d2, d3⟩ := HL.out.elem (k := k + i - 1) (by omega)
              simp only [Option.some.injEq, Addr.mk.injEq, and_true] at hA1
              subst hA1
              rw [midE_get _ _ _ (by omega)] at hr hr1
              have Hs := Lib.hid hr
              have Hs1 := Lib.hid hr1
              have ea : (k + i) * 4 = k * 4 + i * 4 := by omega
              have eb : (k + i - 1) * 4 = k * 4 + (i - 1) * 4 := by omega
              rw [ea] at c0 c1 c2 c3
              rw [eb] at d0 d1 d2 d3
              have hltz : (i : Int) < ((l.length - k : Nat) : Int) := by omega
              have e1 := Go.IntWalk.i64_in ((i : Int) - 1) (by omega)
              have e2 : ((i : Int) - 1).toNat = i - 1 := by omega
              have e3 : 0 ≤ (i : Int) - 1 := by omega
              have e4 : (i : Int) - 1 < ((l.length - k : Nat) : Int) := by omega
              clear hr hr1 hkk ea eb
              cases hq : eqEd ⟨p0, q0, p1, q1⟩ ⟨s0, t0, s1, t1⟩ with
              | true =>
                have HQ2 := Lib.hid ((eqEd_iff _ _).1 hq)
                go_wp2
                go_quiet (fail)
                clear hq c0 c1 c2 c3 d0 d1 d2 d3
                have HS2 := Lib.hid (midE_same Hs.out ⟨by omega, by rw [Hs1.out, HQ2.out]⟩)
                go_wp2
                exact ⟨⟨i + 1, kk, by omega, by omega, rfl, by go_num, by rw [← Nat.add_assoc, HS2.out.1]; exact HKK.out, hk2, by omega, Lib.hid (by rw [← Nat.add_assoc, HS2.out.2]; exact HL.out), below_drewN hb _⟩, by simp [intOf]; omega⟩
              | false =>
                have HQ2 := Lib.hid ((eqEd_no _ _).1 hq)
                go_wp2
                go_quiet (fail)
                have HS2 := Lib.hid (midE_new Hs.out (by rw [Hs1.out]; exact fun h9 => HQ2.out (Option.some.inj h9).symm) (by rw [← HKK.out]; omega))
                have HC2 := Lib.hid (show (wr.drewN nq).cell? ⟨g, k * 4 + i * 4, none⟩ = some (.int .i64 p0) ∧ (wr.drewN nq).cell? ⟨g, k * 4 + i * 4 + 1, none⟩ = some (.int .i64 q0) ∧ (wr.drewN nq).cell? ⟨g, k * 4 + i * 4 + 2, none⟩ = some (.int .i64 p1) ∧ (wr.drewN nq).cell? ⟨g, k * 4 + i * 4 + 3, none⟩ = some (.int .i64 q1) from ⟨c0, c1, c2, c3⟩)
                have HW2 := Lib.hid (show EL (wr.drewN nq) B (.slice (some ⟨g, 0, none⟩) l.length c) (midE l (k + i)) from HL.out.on (below_drewN (Below.refl _ _) nq))
                have HB2 := Lib.hid (below_drewN hb nq)
                clear hq c0 c1 c2 c3 d0 d1 d2 d3
                generalize wr.drewN nq = W2 at *
                obtain ⟨g4, _, _, _, _, hA4, -, -, m0, m1, m2, m3⟩ := HW2.out.elem (k := kk) (by omega)
                simp only [Option.some.injEq, Addr.mk.injEq, and_true] at hA4
                subst hA4
                obtain ⟨c0, c1, c2, c3⟩ := HC2.out
                have f0 := HW2.out.frozen (kk * 4)
                have f1 := HW2.out.frozen (kk * 4 + 1)
                have f2 := HW2.out.frozen (kk * 4 + 2)
                have f3 := HW2.out.frozen (kk * 4 + 3)
                have hkz : (kk : Int) < (l.length : Int) := by omega
                go_wp2
                exact ⟨⟨i + 1, kk + 1, by omega, by omega, by go_num, by go_num, by rw [← Nat.add_assoc, HS2.out.1, ← HKK.out], by omega, by omega, Lib.hid (by rw [← Nat.add_assoc, HS2.out.2, ← HKK.out]; exact HW2.out.set4 (by omega) p0 q0 p1 q1), (((HB2.out.setCell (p := ⟨g, kk * 4, none⟩) hBg _).setCell (p := ⟨g, kk * 4 + 1, none⟩) hBg _).setCell (p := ⟨g, kk * 4 + 2, none⟩) hBg _).setCell (p := ⟨g, kk * 4 + 3, none⟩) hBg _⟩, by simp [intOf]; omega⟩
            · have hke : k + i = l.length := by omega
              have hmlen := midE_len l (k + i) hi
              have h9 : EL wr B (.slice (some ⟨g, 0, none⟩) (midE l (k + i)).length c) (midE l (k + i)) := by rw [hmlen]; exact HL.out
              have hcl : ∀ ty, (Builtin.clear_ #[41] ty #[.slice (some ⟨g, kk * 4, none⟩) (l.length - kk) (c - kk)]).run Tryz.prog wr = .ok (.tuple #[]) (wr.setCells g (kk * 4) (zsE (l.length - kk))) := fun ty =>
                run_clear_E wr ty g (kk * 4) (l.length - kk) (c - kk) (by omega)
                  (fun j hj => by rw [World.ownsRow.cellAt h9 (kk * 4 + j) (by omega), List.getElem?_eq_getElem (by rw [flatE_length]; omega)]; rfl)
                  (fun j hj => h9.frozen _)
              have h8 := HL.out.cut kk (by omega)
              have hsz : sqz l = (midE l (k + i)).take kk := by
                unfold sqz midE
                rw [← hke, HKK.out, List.take_left]
              rw [← hsz] at h8
              have hsl : (sqz l).length = kk := by unfold sqz; rw [← hke]; exact HKK.out.symm
              have H8 := Lib.hid (h8.behind (zsE (l.length - kk)) (kk * 4) (by omega))
              have HB8 := Lib.hid (below_setE hBg (zsE (l.length - kk)) (kk * 4) hb)
              have hkz : (kk : Int) < (l.length : Int) := by omega
              have hkc : (kk : Int) ≤ (c : Int) := by omega
              have hnl : ¬ ((i : Int) < ((l.length - k : Nat) : Int)) := by omega
              clear h8 h9 hsz hsl hkk
              go_wp2_with (simp only [hcl])
              go_ret
              exact ⟨kk, rfl, H8.out, HB8.out⟩
      · obtain rfl : k = l.length := by omega
        have hs : sqz l = l := by
          unfold sqz
          rw [sqTo_all (Nat.le_refl _) HN.out, List.take_length]
        have HS := Lib.hid hs
        have hnlt : ¬ ((l.length : Nat) : Int) < (l.length : Int) := by omega
        clear hs
        go_wp2
        go_ret
        exact ⟨_, rfl, by rw [HS.out]; exact HV.out.on hb, hb.mono (Nat.le_of_lt HV.out.base.2 |> fun _ => by have := HV.out.base; omega)⟩

end Go.Proofs.YtjiljodchebniaaGreat

namespace Go.Proofs.YtjiljodchebniaaGreat
open Go.RowKit

theorem srt_edges (G : Gr) : EdgesOf G (srtE (bndTo G 81)) := fun e => (srtE_mem _ e).trans (bnd_mem G e)
theorem ve_same {rss : List (List Rc)} {q : Ru} {ms : List Rc} (hp : pairB q.k = false) : sqz (srtE ((srtE (bndTo (cellsG (layAt rss q.l)) 81)).filter (besB (cellsG ms)))) = veL rss q ms :=
  (edges_same (srt_edges _) (srt_edges _)).trans (veL_one hp (srt_edges _)).symm
theorem ve_same2 {rss : List (List Rc)} {q : Ru} {ms : List Rc} (hp : pairB q.k = true) : sqz (srtE ((srtE (bndTo (cellsG (layAt rss q.l)) 81) ++ srtE (bndTo (cellsG (layAt rss q.o)) 81)).filter (besB (cellsG ms)))) = veL rss q ms :=
  (edges_same2 (srt_edges _) (srt_edges _) (srt_edges _) (srt_edges _)).trans (veL_two hp (srt_edges _) (srt_edges _)).symm
theorem bes_four (a b c d : Int) (g : Nat) (M : Gr) (w : World) (hM : GB w g 89 M) (he : ∃ G, EdgeC G ⟨a, b, c, d⟩) : Calls Tryz.prog 29 #[.agg #[.int .i64 a, .int .i64 b, .int .i64 c, .int .i64 d], .pointer (some ⟨g, 0, none⟩)] w fun e' w' => e' = .returned (.bool (besB M ⟨a, b, c, d⟩)) ∧ Below w.heap.size w w' :=
  let ⟨G, h⟩ := he
  bes_any ⟨a, b, c, d⟩ G g M w hM h
theorem filt_step (p : Ed → Bool) {l : List Ed} {j : Nat} {x : Ed} (h : l[j]? = some x) : (l.take (j + 1)).filter p = (l.take j).filter p ++ (if p x = true then [x] else []) := by
  rw [List.take_add_one, h, List.filter_append]
  simp [List.filter]
  cases p x <;> rfl
theorem filt_len (p : Ed → Bool) (l : List Ed) (j : Nat) : ((l.take j).filter p).length ≤ l.length :=
  Nat.le_trans (List.length_filter_le _ _) (by rw [List.length_take]; omega)

set_option maxHeartbeats 1600000 in
set_option maxRecDepth 100000 in
/-- ViolationEdges of the program. -/
theorem ve_impl (lv v vm : Value) (rss : List (List Rc)) (qs : List Ru) (k : Int) (ms : List Rc) (w : World) (hl : RLL w 0 lv rss) (hv : QL w 0 v qs) (hm : RL w 0 vm ms) (hn9 : qs.length ≤ 1000000000) :
    Calls Tryz.prog 11 #[lv, .agg #[v], .agg #[.int .i64 k, vm]] w fun e w' => ∃ u, e = .returned (.tuple #[u, .int .i64 (veC rss qs k ms)]) ∧ EL w' w.heap.size u (veLst rss qs k ms) ∧ Below w.heap.size w w' := by
  obtain ⟨A, c, rfl, hc, hmx⟩ := hv.form
  unfold maxLen at hmx
  have V0 := VE.start k hl hv hm
  clear hl hv hm
  cases h1 : layB rss with
  | false =>
    obtain ⟨e0, e1⟩ := ve_no (rss := rss) (qs := qs) (k := k) (ms := ms) (by rw [h1]; simp)
    rw [e0, e1]
    clear e0 e1
    have HV := Lib.hid V0
    clear V0
    go_enter Tryz.func11, Tryz.ntmps11
    go_wp2_with fail
    refine (isLay_impl _ rss _ HV.out.la).mono ?_
    rintro e w1 ⟨rfl, hb1⟩
    rw [h1]
    go_wp2
    refine bodyPost_ret (v := .tuple #[.slice none 0 0, .int .i64 1]) (by simp [results, Tryz.results11, go_sem]) rfl ?_
    exact ⟨_, rfl, EL.nil _ _, (HV.out.on hb1).bel⟩
  | true =>
  have H1 := Lib.hid h1
  cases h2 : deckB qs with
  | false =>
    obtain ⟨e0, e1⟩ := ve_no (rss := rss) (qs := qs) (k := k) (ms := ms) (by rw [h2]; simp)
    rw [e0, e1]
    clear e0 e1 h1
    have HV := Lib.hid V0
    clear V0
    go_enter Tryz.func11, Tryz.ntmps11
    go_wp2_with fail
    refine (isLay_impl _ rss _ HV.out.la).mono ?_
    rintro e w1 ⟨rfl, hb1⟩
    rw [H1.out]
    replace HV := Lib.hid (HV.out.on hb1)
    have d0 := box1 HV.out.dk
    go_wp2_with fail
    refine (deck_impl _ qs _ HV.out.ru hn9).mono ?_
    rintro e w2 ⟨rfl, hb2⟩
    rw [h2]
    clear d0
    go_wp2
    refine bodyPost_ret (v := .tuple #[.slice none 0 0, .int .i64 1]) (by simp [results, Tryz.results11, go_sem]) rfl ?_
    exact ⟨_, rfl, EL.nil _ _, (HV.out.on hb2).bel⟩
  | true =>
  have H2 := Lib.hid h2
  cases h3 : vioV k ms with
  | false =>
    obtain ⟨e0, e1⟩ := ve_no (rss := rss) (qs := qs) (k := k) (ms := ms) (by rw [h3]; simp)
    rw [e0, e1]
    clear e0 e1 h1 h2
    have HV := Lib.hid V0
    clear V0
    go_enter Tryz.func11, Tryz.ntmps11
    go_wp2_with fail
    refine (isLay_impl _ rss _ HV.out.la).mono ?_
    rintro e w1 ⟨rfl, hb1⟩
    rw [H1.out]
    replace HV := Lib.hid (HV.out.on hb1)
    have d0 := box1 HV.out.dk
    go_wp2_with fail
    refine (deck_impl _ qs _ HV.out.ru hn9).mono ?_
    rintro e w2 ⟨rfl, hb2⟩
    rw [H2.out]
    clear d0
    replace HV := Lib.hid (HV.out.on hb2)
    obtain ⟨d1, d2⟩ := box2 HV.out.vi
    go_wp2_with fail
    refine (vio_impl k vm ms _ HV.out.rg).mono ?_
    rintro e w3 ⟨rfl, hb3⟩
    rw [h3]
    clear d1 d2
    go_wp2
    refine bodyPost_ret (v := .tuple #[.slice none 0 0, .int .i64 1]) (by simp [results, Tryz.results11, go_sem]) rfl ?_
    exact ⟨_, rfl, EL.nil _ _, (HV.out.on hb3).bel⟩
  | true =>
  have H3 := Lib.hid h3
  have hall : (layB rss && deckB qs && vioV k ms) = true := by rw [h1, h2, h3]; rfl
  have Hall := Lib.hid hall
  obtain ⟨⟨hk0, hk11⟩, hokm⟩ := vio_facts h3
  obtain ⟨i, rfl⟩ : ∃ i : Nat, k = (i : Int) := ⟨k.toNat, by omega⟩
  have Hokm := Lib.hid hokm
  have HV := Lib.hid V0
  clear V0 h1 h2 h3 hall hokm
  go_enter Tryz.func11, Tryz.ntmps11
  go_wp2_with fail
  refine (isLay_impl _ rss _ HV.out.la).mono ?_
  rintro e w1 ⟨rfl, hb1⟩
  rw [H1.out]
  replace HV := Lib.hid (HV.out.on hb1)
  have d0 := box1 HV.out.dk
  go_wp2_with fail
  refine (deck_impl _ qs _ HV.out.ru hn9).mono ?_
  rintro e w2 ⟨rfl, hb2⟩
  rw [H2.out]
  clear d0
  replace HV := Lib.hid (HV.out.on hb2)
  obtain ⟨d1, d2⟩ := box2 HV.out.vi
  go_wp2_with fail
  refine (vio_impl _ vm ms _ HV.out.rg).mono ?_
  rintro e w3 ⟨rfl, hb3⟩
  rw [H3.out]
  clear d1 d2
  replace HV := Lib.hid (HV.out.on hb3)
  clear hb1 hb2 hb3
  have d0 := box1 HV.out.dk
  obtain ⟨d1, d2⟩ := box2 HV.out.vi
  by_cases hlt : i < qs.length
  · obtain ⟨q, hq⟩ : ∃ q, qs[i]? = some q := ⟨_, List.getElem?_eq_getElem hlt⟩
    have hru := deck_rule H2.out hq
    have hrf := rule_facts hru
    have HY := Lib.hid (ve_yes Hall.out (by rw [Int.toNat_natCast]; exact hq) (show (i : Int) < (qs.length : Int) by omega))
    obtain ⟨a0, a1, a2, a3, a4⟩ := q
    dsimp only at hrf
    obtain ⟨x, rfl⟩ : ∃ x : Nat, a1 = (x : Int) := ⟨a1.toNat, by omega⟩
    obtain ⟨y, rfl⟩ : ∃ y : Nat, a2 = (y : Int) := ⟨a2.toNat, by omega⟩
    obtain ⟨gq, rfl, -, hgq, f0, f1, f2, f3, f4⟩ := HV.out.ru.elem hq
    dsimp only at f0 f1 f2 f3 f4
    obtain ⟨Al, cl, rfl, -, -⟩ := HV.out.la.form
    have hz : (x : Int) < (rss.length : Int) ∧ (y : Int) < (rss.length : Int) ∧ x < rss.length ∧ y < rss.length := by have h8 := ((layB_iff rss).1 H1.out).1; omega
    have Hru := Lib.hid hru
    have Hokx : Hid (okAll (layAt rss (x : Int)) = true) := Lib.hid (okAll_of_reg (lay_reg H1.out hz.2.2.1))
    have Hoky : Hid (okAll (layAt rss (y : Int)) = true) := Lib.hid (okAll_of_reg (lay_reg H1.out hz.2.2.2))
    have hltz : (i : Int) < (qs.length : Int) := by omega
    have bA := (Below.refl w3.heap.size w3).alloc (Nat.le_refl _) (.cells #[.int .i64 a0, .int .i64 (x : Int), .int .i64 (y : Int), .int .i64 a3, .int .i64 a4] 31)
    have V4 := HV.out.on bA
    have Z4 := Bk.new w3 31 #[.int .i64 a0, .int .i64 (x : Int), .int .i64 (y : Int), .int .i64 a3, .int .i64 a4]
    clear hq hru
    go_upto_region 6 with fail
    clear d0 d1 d2 f0 f1 f2 f3 f4 bA hgq
    generalize hgr : w3.heap.size = gr at *
    generalize w3.alloc (.cells #[.int .i64 a0, .int .i64 (x : Int), .int .i64 (y : Int), .int .i64 a3, .int .i64 a4] 31) = W4 at *
    obtain ⟨gl, ux, rfl, hgl, fx, rx⟩ := lay_elem V4.la hz.2.2.1
    obtain ⟨gl2, uy, hgl2, -, fy, ry⟩ := lay_elem V4.la hz.2.2.2
    cases hgl2
    have HR := Lib.hid (And.intro rx ry)
    have HS := Lib.hid (show ∀ W, Below W4.heap.size W4 W → (W.cell? ⟨gr, 0, none⟩ = some (.int .i64 a0) ∧ W.cell? ⟨gr, 1, none⟩ = some (.int .i64 (x : Int)) ∧ W.cell? ⟨gr, 2, none⟩ = some (.int .i64 (y : Int)) ∧ W.cell? ⟨gr, 3, none⟩ = some (.int .i64 a3) ∧ W.cell? ⟨gr, 4, none⟩ = some (.int .i64 a4)) ∧ W.cell? ⟨gl, x, none⟩ = some ux ∧ W.cell? ⟨gl, y, none⟩ = some uy from fun W hW => ⟨box5 (Z4.on hW), (hW.cell (p := ⟨gl, x, none⟩) hgl).trans fx, (hW.cell (p := ⟨gl, y, none⟩) hgl).trans fy⟩)
    have HV4 := Lib.hid V4
    obtain ⟨⟨h0, h1, h2, h3, h4⟩, i1, i2⟩ := HS.out _ (Below.refl _ _)
    have hbl := fun G => bndTo_len G 81
    clear V4 Z4 fx fy rx ry
    go_upto_region 7 with (first
      | (go_at_call 24; (with_reducible refine (cellsOf_any ux _ _ HR.out.1).mono ?_); rintro e w4 ⟨g1, rfl, -, hG1, hb4⟩; have HG1 := Lib.hid hG1)
      | (go_at_call 27; (with_reducible refine (boundary_any g1 _ _ HG1.out).mono ?_); rintro e w5 ⟨v5, rfl, hE5, hb5⟩))
    obtain ⟨A5, c5, rfl, -, -, -⟩ := hE5.form
    have t5 := Lib.hid (hb4.trans (hb5.mono hb4.size))
    have HE5 := Lib.hid (hE5.less hb4.size)
    have hl1 : (srtE (bndTo (cellsG (layAt rss (x : Int))) 81)).length ≤ 12960 := by rw [srtE_len]; exact hbl _
    have Hed1 := Lib.hid (fun e h => (⟨_, (srt_edges (cellsG (layAt rss (x : Int))) e).1 h⟩ : ∃ G, EdgeC G e))
    clear h0 h1 h2 h3 h4 i1 i2 hG1 HG1 hb4 hb5 hE5
    obtain ⟨⟨h0, h1, h2, h3, h4⟩, i1, i2⟩ := HS.out _ t5.out
    cases hp : pairB a0 with
    | false =>
      have HRES := Lib.hid (ve_same (rss := rss) (q := ⟨a0, (x : Int), (y : Int), a3, a4⟩) (ms := ms) hp)
      have HP := Lib.hid hp
      dsimp only at HRES
      generalize srtE (bndTo (cellsG (layAt rss (x : Int))) 81) = all at *
      have HA := HE5
      have tq := t5
      have Hall2 := Hed1
      have hal : all.length ≤ 30000 := by omega
      clear hp
      go_upto_region 9 with (go_at_call 28; (with_reducible refine (hasOther_any a0 _).mono ?_); rintro e w9 ⟨rfl, rfl⟩; rw [HP.out])
      obtain ⟨d5, d6⟩ := box2 (HV4.out.on tq.out).vi
      go_wp2_with (go_at_call 24; (with_reducible refine (cellsOf_any vm ms _ ((HV4.out.on tq.out).rg)).mono ?_); rintro e w6 ⟨g2, rfl, -, hM, hb6⟩)
      have t6 := Lib.hid (tq.out.trans (hb6.mono tq.out.size))
      have HN := Lib.hid (show EL (w6.alloc (.cells #[] 48)) w6.heap.size (.slice (some ⟨w6.heap.size, 0, none⟩) 0 0) [] from World.ownsRow_lit w6 #[] 0 (Nat.le_refl _) (by simp [maxLen]) (by simp))
      have bN := Lib.hid ((Below.refl w6.heap.size w6).alloc (Nat.le_refl _) (.cells #[] 48))
      have HA6 := Lib.hid (HA.out.on hb6)
      have hg2 := hM.lt
      have HM6 := Lib.hid (show ∀ W, Below w6.heap.size w6 W → GB W g2 89 (cellsG ms) from fun W hW => hM.below hW hg2)
      have hBW6 : w.heap.size ≤ w6.heap.size := (HV4.out.on t6.out).bel.size
      clear d5 d6 hb6 hM
      go_loopw [11, 66] (fun ov iv wr => ∃ (j g n c : Nat), j ≤ all.length ∧ iv = .int .i64 j ∧ ov = .slice (some ⟨g, 0, none⟩) n c ∧ Hid (EL wr w6.heap.size (.slice (some ⟨g, 0, none⟩) n c) ((all.take j).filter (besB (cellsG ms)))) ∧ Below w6.heap.size w6 wr) (fun _ iv _ => all.length - (intOf iv).toNat)
      case atStart => exact ⟨0, _, _, _, by omega, rfl, rfl, Lib.hid (by simpa using HN.out), bN.out⟩
      case round =>
        obtain ⟨j, g, n, c, hj, rfl, rfl, HL, hb⟩ := hrel
        have hfl := filt_len (besB (cellsG ms)) all j
        by_cases hjl : j < all.length
        · obtain ⟨ga, X0, Y0, X1, Y1, rfl, he, hga, c0, c1, c2, c3⟩ := (HA6.out.on hb).elem hjl
          have hjz : (j : Int) < (all.length : Int) := by omega
          have hst := filt_step (besB (cellsG ms)) he
          have hEC := Hall2.out _ (List.mem_of_getElem? he)
          have bA := (Below.refl wr.heap.size wr).alloc (Nat.le_refl _) (.cells #[.int .i64 X0, .int .i64 Y0, .int .i64 X1, .int .i64 Y1] 48)
          have zb := Bk.new wr 48 #[.int .i64 X0, .int .i64 Y0, .int .i64 X1, .int .i64 Y1]
          have HBA := Lib.hid bA
          have HZB := Lib.hid zb
          have HEC := Lib.hid hEC
          have hszr : w6.heap.size ≤ wr.heap.size := hb.size
          obtain ⟨e0, e1, e2, e3⟩ := box4 zb
          clear he hEC bA zb hga
          cases hbs : besB (cellsG ms) ⟨X0, Y0, X1, Y1⟩ with
          | true =>
            rw [hbs, if_pos rfl] at hst
            have HST := Lib.hid hst
            have Hbs := Lib.hid hbs
            clear hst hbs
            go_wp2_with (first
              | (go_at_call 29; (with_reducible refine (bes_four X0 Y0 X1 Y1 g2 (cellsG ms) _ (HM6.out _ (hb.trans (HBA.out.mono hszr))) HEC.out).mono ?_); rintro e w7 ⟨he7, hb7⟩; rw [Hbs.out] at he7; subst he7; have b7 := Lib.hid (HBA.out.trans (hb7.mono HBA.out.size)); obtain ⟨p0, p1, p2, p3⟩ := box4 (HZB.out.on hb7); have HL7 := Lib.hid (HL.out.on b7.out); have hs7 : w6.heap.size ≤ w7.heap.size := Nat.le_trans hszr b7.out.size)
              | (at_builtin; refine wpList_append_E rfl (.tmp 73) (.tmp 75) rfl w6.heap.size _ _ rfl HL7.out X0 Y0 X1 Y1 rfl (by omega) hs7 ?_; intro v2 w8 m1 m2 m3; rw [← HST.out] at m1; obtain ⟨A2, c2', rfl, -, -, -⟩ := m1.form; obtain ⟨g8, _, _, _, _, hA8, -⟩ := m1.elem (k := 0) (by rw [HST.out, List.length_append, List.length_singleton]; omega); subst hA8; have M1 := Lib.hid m1; have b8 := Lib.hid ((b7.out.mono hszr).trans m3); clear m1 m2 m3))
            exact ⟨⟨j + 1, g8, _, c2', by omega, by go_num, rfl, M1, hb.trans b8.out⟩, by simp [intOf]; omega⟩
          | false =>
            rw [hbs, if_neg (by decide), List.append_nil] at hst
            have HST := Lib.hid hst
            have Hbs := Lib.hid hbs
            clear hst hbs
            go_wp2_with (go_at_call 29; (with_reducible refine (bes_four X0 Y0 X1 Y1 g2 (cellsG ms) _ (HM6.out _ (hb.trans (HBA.out.mono hszr))) HEC.out).mono ?_); rintro e w7 ⟨he7, hb7⟩; rw [Hbs.out] at he7; subst he7; have b7 := Lib.hid (HBA.out.trans (hb7.mono HBA.out.size)))
            exact ⟨⟨j + 1, g, n, c, by omega, by go_num, rfl, Lib.hid (by rw [HST.out]; exact HL.out.on b7.out), hb.trans (b7.out.mono hszr)⟩, by simp [intOf]; omega⟩
        · obtain rfl : j = all.length := by omega
          rw [List.take_length] at hfl
          have HL9 := Lib.hid (show EL wr w6.heap.size (.slice (some ⟨g, 0, none⟩) n c) (all.filter (besB (cellsG ms))) from by have := HL.out; rw [List.take_length] at this; exact this)
          have hszr : w6.heap.size ≤ wr.heap.size := hb.size
          have hnj : ¬ ((all.length : Nat) : Int) < (all.length : Int) := by omega
          have hsl : (srtE (all.filter (besB (cellsG ms)))).length ≤ 1000000 := by rw [srtE_len]; omega
          go_wp2_with (first
            | (go_at_call 30; (with_reducible refine (sortE_any _ _ _ w6.heap.size HL9.out (by omega)).mono ?_); rintro e w7 ⟨rfl, hS, hgr⟩; have HS7 := Lib.hid hS; have b7 := Lib.hid (hb.trans (below_own HL9.out hgr hszr)); clear hS hgr)
            | (go_at_call 32; (with_reducible refine (compact_any g n c _ w6.heap.size _ HS7.out hsl).mono ?_); rintro e w8 ⟨n8, rfl, hC, hb8⟩; have HC := Lib.hid hC; have b8 := Lib.hid (b7.out.trans hb8); clear hC hb8))
          refine bodyPost_ret (v := .tuple #[.slice (some ⟨g, 0, none⟩) n8 c, .int .i64 0]) (by simp [results, Tryz.results11, go_sem]) rfl ?_
          exact ⟨_, by rw [HY.out.2], by rw [HY.out.1, ← HRES.out]; exact HC.out.less hBW6, ((HV4.out.on t6.out).on b8.out).bel⟩
    | true =>
      have HRES := Lib.hid (ve_same2 (rss := rss) (q := ⟨a0, (x : Int), (y : Int), a3, a4⟩) (ms := ms) hp)
      have HP := Lib.hid hp
      have hl2 : (srtE (bndTo (cellsG (layAt rss (y : Int))) 81)).length ≤ 12960 := by rw [srtE_len]; exact hbl _
      have Hed2 := Lib.hid (fun e h => (⟨_, (srt_edges (cellsG (layAt rss (y : Int))) e).1 h⟩ : ∃ G, EdgeC G e))
      dsimp only at HRES
      obtain ⟨all, hall⟩ : ∃ L, srtE (bndTo (cellsG (layAt rss (x : Int))) 81) ++ srtE (bndTo (cellsG (layAt rss (y : Int))) 81) = L := ⟨_, rfl⟩
      rw [hall] at HRES
      have HALL := Lib.hid hall
      have hal : all.length ≤ 30000 := by rw [← hall, List.length_append]; omega
      clear hall
      have HRy := Lib.hid (HR.out.2.on t5.out)
      have hBs5 := t5.out.size
      clear hp
      go_upto_region 9 with (first
        | (go_at_call 28; (with_reducible refine (hasOther_any a0 _).mono ?_); rintro e w9 ⟨rfl, rfl⟩; rw [HP.out])
        | (go_at_call 24; (with_reducible refine (cellsOf_any uy _ _ HRy.out).mono ?_); rintro e wa ⟨g9, rfl, -, hG9, hba⟩; have HG9 := Lib.hid hG9)
        | (go_at_call 27; (with_reducible refine (boundary_any g9 _ _ HG9.out).mono ?_); rintro e wb ⟨v9, rfl, hE9, hbb⟩; have tb := Lib.hid (t5.out.trans ((hba.trans (hbb.mono hba.size)).mono hBs5)); have HE9 := Lib.hid (hE9.less (Nat.zero_le _)); have HE5b := Lib.hid ((HE5.out.on hba).on hbb); have hszb := tb.out.size)
        | (at_builtin; refine wpList_append_EE rfl (.tmp 51) (.tmp 58) rfl W4.heap.size 0 _ _ _ _ rfl HE5b.out rfl HE9.out (by omega) hszb ?_; intro v8 w8 k1 k2; rw [HALL.out] at k1; obtain ⟨A8, c8, rfl, -, -, -⟩ := k1.form; have HA := Lib.hid k1; have tq := Lib.hid (tb.out.trans k2); clear k1 k2))
      have Hall2 := Lib.hid (fun (e : Ed) h => (List.mem_append.1 (show e ∈ srtE (bndTo (cellsG (layAt rss (x : Int))) 81) ++ srtE (bndTo (cellsG (layAt rss (y : Int))) 81) by rw [HALL.out]; exact h)).elim (Hed1.out e) (Hed2.out e))
      clear HE5b HE9 hl1 hl2 Hed1 Hed2
      obtain ⟨d5, d6⟩ := box2 (HV4.out.on tq.out).vi
      go_wp2_with (go_at_call 24; (with_reducible refine (cellsOf_any vm ms _ ((HV4.out.on tq.out).rg)).mono ?_); rintro e w6 ⟨g2, rfl, -, hM, hb6⟩)
      have t6 := Lib.hid (tq.out.trans (hb6.mono tq.out.size))
      have HN := Lib.hid (show EL (w6.alloc (.cells #[] 48)) w6.heap.size (.slice (some ⟨w6.heap.size, 0, none⟩) 0 0) [] from World.ownsRow_lit w6 #[] 0 (Nat.le_refl _) (by simp [maxLen]) (by simp))
      have bN := Lib.hid ((Below.refl w6.heap.size w6).alloc (Nat.le_refl _) (.cells #[] 48))
      have HA6 := Lib.hid (HA.out.on hb6)
      have hg2 := hM.lt
      have HM6 := Lib.hid (show ∀ W, Below w6.heap.size w6 W → GB W g2 89 (cellsG ms) from fun W hW => hM.below hW hg2)
      have hBW6 : w.heap.size ≤ w6.heap.size := (HV4.out.on t6.out).bel.size
      clear d5 d6 hb6 hM
      go_loopw [11, 66] (fun ov iv wr => ∃ (j g n c : Nat), j ≤ all.length ∧ iv = .int .i64 j ∧ ov = .slice (some ⟨g, 0, none⟩) n c ∧ Hid (EL wr w6.heap.size (.slice (some ⟨g, 0, none⟩) n c) ((all.take j).filter (besB (cellsG ms)))) ∧ Below w6.heap.size w6 wr) (fun _ iv _ => all.length - (intOf iv).toNat)
      case atStart => exact ⟨0, _, _, _, by omega, rfl, rfl, Lib.hid (by simpa using HN.out), bN.out⟩
      case round =>
        obtain ⟨j, g, n, c, hj, rfl, rfl, HL, hb⟩ := hrel
        have hfl := filt_len (besB (cellsG ms)) all j
        by_cases hjl : j < all.length
        · obtain ⟨ga, X0, Y0, X1, Y1, rfl, he, hga, c0, c1, c2, c3⟩ := (HA6.out.on hb).elem hjl
          have hjz : (j : Int) < (all.length : Int) := by omega
          have hst := filt_step (besB (cellsG ms)) he
          have hEC := Hall2.out _ (List.mem_of_getElem? he)
          have bA := (Below.refl wr.heap.size wr).alloc (Nat.le_refl _) (.cells #[.int .i64 X0, .int .i64 Y0, .int .i64 X1, .int .i64 Y1] 48)
          have zb := Bk.new wr 48 #[.int .i64 X0, .int .i64 Y0, .int .i64 X1, .int .i64 Y1]
          have HBA := Lib.hid bA
          have HZB := Lib.hid zb
          have HEC := Lib.hid hEC
          have hszr : w6.heap.size ≤ wr.heap.size := hb.size
          obtain ⟨e0, e1, e2, e3⟩ := box4 zb
          clear he hEC bA zb hga
          cases hbs : besB (cellsG ms) ⟨X0, Y0, X1, Y1⟩ with
          | true =>
            rw [hbs, if_pos rfl] at hst
            have HST := Lib.hid hst
            have Hbs := Lib.hid hbs
            clear hst hbs
            go_wp2_with (first
              | (go_at_call 29; (with_reducible refine (bes_four X0 Y0 X1 Y1 g2 (cellsG ms) _ (HM6.out _ (hb.trans (HBA.out.mono hszr))) HEC.out).mono ?_); rintro e w7 ⟨he7, hb7⟩; rw [Hbs.out] at he7; subst he7; have b7 := Lib.hid (HBA.out.trans (hb7.mono HBA.out.size)); obtain ⟨p0, p1, p2, p3⟩ := box4 (HZB.out.on hb7); have HL7 := Lib.hid (HL.out.on b7.out); have hs7 : w6.heap.size ≤ w7.heap.size := Nat.le_trans hszr b7.out.size)
              | (at_builtin; refine wpList_append_E rfl (.tmp 73) (.tmp 75) rfl w6.heap.size _ _ rfl HL7.out X0 Y0 X1 Y1 rfl (by omega) hs7 ?_; intro v2 w8 m1 m2 m3; rw [← HST.out] at m1; obtain ⟨A2, c2', rfl, -, -, -⟩ := m1.form; obtain ⟨g8, _, _, _, _, hA8, -⟩ := m1.elem (k := 0) (by rw [HST.out, List.length_append, List.length_singleton]; omega); subst hA8; have M1 := Lib.hid m1; have b8 := Lib.hid ((b7.out.mono hszr).trans m3); clear m1 m2 m3))
            exact ⟨⟨j + 1, g8, _, c2', by omega, by go_num, rfl, M1, hb.trans b8.out⟩, by simp [intOf]; omega⟩
          | false =>
            rw [hbs, if_neg (by decide), List.append_nil] at hst
            have HST := Lib.hid hst
            have Hbs := Lib.hid hbs
            clear hst hbs
            go_wp2_with (go_at_call 29; (with_reducible refine (bes_four X0 Y0 X1 Y1 g2 (cellsG ms) _ (HM6.out _ (hb.trans (HBA.out.mono hszr))) HEC.out).mono ?_); rintro e w7 ⟨he7, hb7⟩; rw [Hbs.out] at he7; subst he7; have b7 := Lib.hid (HBA.out.trans (hb7.mono HBA.out.size)))
            exact ⟨⟨j + 1, g, n, c, by omega, by go_num, rfl, Lib.hid (by rw [HST.out]; exact HL.out.on b7.out), hb.trans (b7.out.mono hszr)⟩, by simp [intOf]; omega⟩
        · obtain rfl : j = all.length := by omega
          rw [List.take_length] at hfl
          have HL9 := Lib.hid (show EL wr w6.heap.size (.slice (some ⟨g, 0, none⟩) n c) (all.filter (besB (cellsG ms))) from by have := HL.out; rw [List.take_length] at this; exact this)
          have hszr : w6.heap.size ≤ wr.heap.size := hb.size
          have hnj : ¬ ((all.length : Nat) : Int) < (all.length : Int) := by omega
          have hsl : (srtE (all.filter (besB (cellsG ms)))).length ≤ 1000000 := by rw [srtE_len]; omega
          go_wp2_with (first
            | (go_at_call 30; (with_reducible refine (sortE_any _ _ _ w6.heap.size HL9.out (by omega)).mono ?_); rintro e w7 ⟨rfl, hS, hgr⟩; have HS7 := Lib.hid hS; have b7 := Lib.hid (hb.trans (below_own HL9.out hgr hszr)); clear hS hgr)
            | (go_at_call 32; (with_reducible refine (compact_any g n c _ w6.heap.size _ HS7.out hsl).mono ?_); rintro e w8 ⟨n8, rfl, hC, hb8⟩; have HC := Lib.hid hC; have b8 := Lib.hid (b7.out.trans hb8); clear hC hb8))
          refine bodyPost_ret (v := .tuple #[.slice (some ⟨g, 0, none⟩) n8 c, .int .i64 0]) (by simp [results, Tryz.results11, go_sem]) rfl ?_
          exact ⟨_, by rw [HY.out.2], by rw [HY.out.1, ← HRES.out]; exact HC.out.less hBW6, ((HV4.out.on t6.out).on b8.out).bel⟩
  · have HF := Lib.hid (ve_far Hall.out (show ¬ ((i : Int) < (qs.length : Int)) by omega))
    have hge : ((qs.length : Nat) : Int) ≤ (i : Int) := by omega
    go_wp2
    refine bodyPost_ret (v := .tuple #[.slice none 0 0, .int .i64 5]) (by simp [results, Tryz.results11, go_sem]) rfl ?_
    exact ⟨_, by rw [HF.out.2], by rw [HF.out.1]; exact EL.nil _ _, HV.out.bel⟩

end Go.Proofs.YtjiljodchebniaaGreat
