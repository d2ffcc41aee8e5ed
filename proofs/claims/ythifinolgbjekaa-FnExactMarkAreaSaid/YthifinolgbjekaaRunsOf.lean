/- Contracts: the program's runsOf and allRuns. No conditions. -/
import Derived.Test.YthifinolgbjekaaRunsImpl
import Derived.Test.YthifinolgbjekaaRuns17
namespace Go.Proofs.Ythifinolgbjekaa
open Go.RowKit

/-- The integer that a pointer leads to. -/
def lineOf (w : World) : Value → Int
  | .pointer (some a) => intOf ((w.cell? a).getD (.bool false))
  | _ => 0
theorem lineOf_bk {w : World} {b : Nat} {t : TypeId} {x : Int} (h : Bk w b t #[.int .i64 x]) : lineOf w (.pointer (some ⟨b, 0, none⟩)) = x := by
  have := h.cell 0
  simp only [List.getElem?_toArray, List.getElem?_cons_zero] at this
  simp [lineOf, this, intOf]

theorem Bk.new' (w : World) (n : Nat) (t : TypeId) (cs : Array Value) (h : w.heap.size = n) : Bk (w.alloc (.cells cs t)) n t cs := h ▸ Bk.new w t cs

/-- An empty list of the call's own. -/
theorem row_empty (w : World) (B n : Nat) (h : w.heap.size = n) (hB : B ≤ n) : RL (w.alloc (.cells #[] 37)) B (.slice (some ⟨n, 0, none⟩) 0 0) [] := by
  subst h
  exact own_less (World.ownsRow_lit w #[] 0 (Nat.le_refl _) (Nat.zero_le _) rfl) hB

set_option maxHeartbeats 800000 in
set_option maxRecDepth 100000 in
/-- runsOf. -/
theorem runsOf_any (g : Nat) (vert : Bool) (G : Gr) (w : World) (hG : GB w g 62 G) :
    Calls Try.prog 102 #[.pointer (some ⟨g, 0, none⟩), .bool vert] w fun e w' => ∃ u, e = .returned u ∧ RL w' w.heap.size u (runsG G vert) ∧ Below w.heap.size w w' := by
  have Hlen := Lib.hid (runsG_length G vert)
  go_enter Try.func102, Try.ntmps102
  go_wp2
  go_loopw [6] (fun lv wr => ∃ (a : Nat) (ps : List Rc) (v : Value) (Lb : Nat), a ≤ 80 ∧ lv = .pointer (some ⟨Lb, 0, none⟩) ∧ CapG wr Lb (w.heap.size + 1) w.heap.size g ((a : Int) - 40) vert G ∧ Bk wr (w.heap.size + 3) 24 #[v] ∧ RL wr w.heap.size v ps ∧ Hid (ps ++ restA G vert a = runsG G vert) ∧ w.heap.size ≤ Lb ∧ Below w.heap.size w wr) (fun lv wr => (40 - lineOf wr lv).toNat)
  case atStart =>
    refine ⟨0, [], _, w.heap.size + 1 + 1 + 1 + 1, by omega, rfl, ⟨Bk.new' _ _ _ _ (by simp), ((((Bk.new' _ _ _ _ (by simp)).alloc _).alloc _).alloc _), (((((Bk.new w _ _).alloc _).alloc _).alloc _).alloc _), ((((((hG.alloc _).alloc _).alloc _).alloc _).alloc _))⟩, ((Bk.new' _ _ _ _ (by simp)).alloc _), ?_, Lib.hid (runsG_start G vert), by omega, ?_⟩
    · refine RL.alloc (RL.alloc ?_ _) _
      exact row_empty _ _ _ (by simp) (by omega)
    · exact (((((Below.refl _ w).alloc (Nat.le_refl _) _).alloc (by simp) _).alloc (by simp; omega) _).alloc (by simp; omega) _).alloc (by simp; omega) _
  case round =>
    obtain ⟨a, ps, v, Lb, ha, rfl, hC, hO, hR, hps, hLb, hb⟩ := hrel
    clear hG
    by_cases hlt : a < 80
    · have c0 := hC.l.cell 0
      simp only [List.getElem?_toArray, List.getElem?_cons_zero] at c0
      have Hps := Lib.hid (lines_step hps.out hlt)
      have hB := hb.size
      go_wp2_with (go_at_call 117; refine (runs_any w.heap.size (w.heap.size + 3) Lb (w.heap.size + 1) w.heap.size g ((a : Int) - 40) vert G ps (restA G vert (a + 1)) (runsG G vert) _ hC v hO hR hB (by omega) (by omega) Hps.out (Nat.le_trans Hlen.out (by omega))).mono ?_; rintro e w1 ⟨rfl, hC1, hb1, v1, ps1, hO1, hR1, hps1⟩; have Hps1 := Lib.hid hps1; have d0 := hC1.l.cell 0; simp only [List.getElem?_toArray, List.getElem?_cons_zero] at d0; clear hps1)
      have ea : (a : Int) - 40 + 1 = ((a + 1 : Nat) : Int) - 40 := by omega
      rw [ea]
      refine ⟨⟨a + 1, ps1, v1, w1.heap.size, by omega, rfl, ⟨Bk.new _ _ _, hC1.v.alloc _, hC1.c.alloc _, hC1.g.alloc _⟩, hO1.alloc _, hR1.alloc _, Hps1, Nat.le_trans hB hb1.size, (hb.trans hb1).alloc (Nat.le_trans hB hb1.size) _⟩, ?_⟩
      rw [lineOf_bk hC.l, lineOf_bk (Bk.new _ _ _)]
      omega
    · have c0 := hC.l.cell 0
      have c1 := hO.cell 0
      simp only [List.getElem?_toArray, List.getElem?_cons_zero] at c0 c1
      have He := Lib.hid (lines_end hps.out (by omega))
      go_wp2
      go_ret
      rw [← He.out]
      exact ⟨_, rfl, hR, hb⟩

end Go.Proofs.Ythifinolgbjekaa
