/- Contracts: the program's step, runs over the closures of boundary. Conditions: a set of cells in memory. -/
import Derived.Test.YtemeegpmdhgocaaGreatEdW
import Derived.Test.YtemeegpmdhgocaaGreatEdgeS
import Derived.Deep.RegionHeld3
namespace Go.Proofs.YtemeegpmdhgocaaGreat
open Go.RowKit

set_option maxHeartbeats 400000 in
/-- step. -/
theorem step_any (a b : Bool) (w : World) : Calls Tryz.prog 66 #[.bool a, .bool b] w fun e w' => e = .returned (.int .i64 (stp a b)) ∧ w = w' := by
  go_enter Tryz.func66, Tryz.ntmps66
  cases a <;> cases b
  all_goals
    go_wp2
    go_ret
    exact ⟨rfl, rfl⟩

/-- The state of boundary: the boxes of its set, its line, its list. -/
structure BS (w W : World) (cb lb ob g : Nat) (G : Gr) (line : Int) (v : Value) (es : List Ed) : Prop where
  cbx : Bk W cb 65 #[.pointer (some ⟨g, 0, none⟩)]
  lbx : Bk W lb 2 #[.int .i64 line]
  obx : Bk W ob 32 #[v]
  row : EL W w.heap.size v es
  gb : GB W g 96 G
  bel : Below w.heap.size w W
  hg : g < w.heap.size
  hob : w.heap.size ≤ ob
section
variable {w W W' : World} {cb lb ob g : Nat} {G : Gr} {line : Int} {v : Value} {es : List Ed}
theorem BS.on (h : BS w W cb lb ob g G line v es) (hb : Below W.heap.size W W') : BS w W' cb lb ob g G line v es :=
  ⟨h.cbx.on hb, h.lbx.on hb, h.obx.on hb, h.row.on hb, h.gb.on hb, h.bel.trans (hb.mono h.bel.size), h.hg, h.hob⟩
theorem bk_not {w : World} {B g s n : Nat} {t e : TypeId} {cs : Array Value} {v : Value} {xs : List Value} (hr : w.ownsRow B e s v n xs) (hb : Bk w g t cs) (ht : t ≠ e) : (some g : Option Nat) ≠ v.ownBlock := by
  intro h
  rcases hr.2 with ⟨rfl, _⟩ | ⟨g', cap, cur, rfl, _, hh, _⟩
  · simp [Value.ownBlock] at h
  · simp [Value.ownBlock] at h
    subst h
    unfold Bk at hb
    rw [hb] at hh
    simp only [Option.some.injEq, Obj.cells.injEq] at hh
    exact ht hh.2.1
theorem bk_two {w : World} {a b : Nat} {t t' : TypeId} {cs cs' : Array Value} (h : Bk w a t cs) (h' : Bk w b t' cs') (ht : t ≠ t') : a ≠ b := by
  rintro rfl
  unfold Bk at h h'
  rw [h] at h'
  simp only [Option.some.injEq, Obj.cells.injEq] at h'
  exact ht h'.2.1
/-- The list has grown and is stored. -/
theorem BS.grow {v' : Value} {es' : List Ed} (h : BS w W cb lb ob g G line v es) (hr : EL W' w.heap.size v' es') (hg : W.grownBy W' v.ownBlock) : BS w (W'.setCell ⟨ob, 0, none⟩ v') cb lb ob g G line v' es' := by
  have hgw := h.hg
  have hob := h.hob
  have c1 := h.cbx.grown hg (bk_not h.row h.cbx (by decide))
  have l1 := h.lbx.grown hg (bk_not h.row h.lbx (by decide))
  have o1 := h.obx.grown hg (bk_not h.row h.obx (by decide))
  have hlt : ∀ q, v.ownBlock = some q → w.heap.size ≤ q := fun q hq => (World.ownsRow.lt h.row q hq).1
  have g1 := h.gb.grown hg (fun e => by have := hlt g e.symm; omega)
  have b1 := h.bel.grown hg h.bel.size hlt
  refine ⟨c1.other (p := ⟨ob, 0, none⟩) (bk_two c1 o1 (by decide)) _, l1.other (p := ⟨ob, 0, none⟩) (bk_two l1 o1 (by decide)) _, ?_, own_other hr (fun e => bk_not hr o1 (by decide) e.symm) _, g1.other (p := ⟨ob, 0, none⟩) (by dsimp only; omega) _, b1.setCell (p := ⟨ob, 0, none⟩) hob _, hgw, hob⟩
  have := o1.store 0 v'
  simpa using this
end

end Go.Proofs.YtemeegpmdhgocaaGreat
