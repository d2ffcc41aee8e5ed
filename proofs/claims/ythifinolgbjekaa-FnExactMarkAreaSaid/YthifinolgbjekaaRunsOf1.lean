/- Contracts: the program's lineRect and the two function literals of runsOf. No conditions. -/
import Derived.Test.YthifinolgbjekaaCanon
import Derived.Test.YthifinolgbjekaaPut
import Derived.Test.YthifinolgbjekaaRunsMath
import Derived.Deep.RegionHeld3
namespace Go.Proofs.Ythifinolgbjekaa
open Go.RowKit

theorem lineRect_v (a f t : Int) (h : -1000 ≤ a ∧ a ≤ 1000) (w : World) : Calls Try.prog 120 #[.int .i64 a, .int .i64 f, .int .i64 t, .bool true] w fun e w' => e = .returned (.agg #[.int .i64 a, .int .i64 f, .int .i64 (a + 1), .int .i64 t]) ∧ Below w.heap.size w w' := by
  go_enter Try.func120, Try.ntmps120
  go_wp2
  refine bodyPost_ret (v := .agg #[.int .i64 a, .int .i64 f, .int .i64 (a + 1), .int .i64 t]) (by simp [results, Try.results120, go_sem]) rfl ⟨rfl, ?_⟩
  exact (Below.refl _ _).alloc (Nat.le_refl _) _
theorem lineRect_h (a f t : Int) (h : -1000 ≤ a ∧ a ≤ 1000) (w : World) : Calls Try.prog 120 #[.int .i64 a, .int .i64 f, .int .i64 t, .bool false] w fun e w' => e = .returned (.agg #[.int .i64 f, .int .i64 a, .int .i64 t, .int .i64 (a + 1)]) ∧ Below w.heap.size w w' := by
  go_enter Try.func120, Try.ntmps120
  go_wp2
  refine bodyPost_ret (v := .agg #[.int .i64 f, .int .i64 a, .int .i64 t, .int .i64 (a + 1)]) (by simp [results, Try.results120, go_sem]) rfl ⟨rfl, ?_⟩
  exact (Below.refl _ _).alloc (Nat.le_refl _) _

/-- What kind of cell lies at t: 1 if it is of the set. -/
def kindG (G : Gr) (vert : Bool) (a t : Int) : Int := if lnG G vert a t = true then 1 else 0
theorem kind_yes {G : Gr} {vert : Bool} {a t : Int} (h : lnG G vert a t = true) : kindG G vert a t = 1 := if_pos h
theorem kind_no {G : Gr} {vert : Bool} {a t : Int} (h : lnG G vert a t = false) : kindG G vert a t = 0 := if_neg (by rw [h]; simp)
theorem ret_int {a b : Int} (h : a = b) : Ending.returned (.int .i64 a) = .returned (.int .i64 b) := by rw [h]

/-- The variables that both literals capture. -/
structure CapG (w : World) (Lb Vb Cb g : Nat) (line : Int) (vert : Bool) (G : Gr) : Prop where
  l : Bk w Lb 2 #[.int .i64 line]
  v : Bk w Vb 4 #[.bool vert]
  c : Bk w Cb 59 #[.pointer (some ⟨g, 0, none⟩)]
  g : GB w g 62 G
theorem CapG.on {w w' : World} {Lb Vb Cb g : Nat} {line : Int} {vert : Bool} {G : Gr} (h : CapG w Lb Vb Cb g line vert G) (hb : Below w.heap.size w w') : CapG w' Lb Vb Cb g line vert G := ⟨h.l.on hb, h.v.on hb, h.c.on hb, h.g.on hb⟩

set_option maxHeartbeats 400000 in
theorem at_v (i : Nat) (Lb Vb Cb g : Nat) (line : Int) (G : Gr) (w : World) (hC : CapG w Lb Vb Cb g line true G) (hi : i ≤ 80) :
    Calls Try.prog 118 #[.int .i64 i, .pointer (some ⟨Lb, 0, none⟩), .pointer (some ⟨Vb, 0, none⟩), .pointer (some ⟨Cb, 0, none⟩)] w fun e w' => e = .returned (.int .i64 (kindG G true line ((i : Int) - 40))) ∧ Below w.heap.size w w' := by
  have c0 := hC.l.cell 0
  have c1 := hC.v.cell 0
  have c2 := hC.c.cell 0
  have hg := hC.g
  simp only [List.getElem?_toArray, List.getElem?_cons_zero] at c0 c1 c2
  by_cases hh : hasG G line ((i : Int) - 40) = true
  case' pos => have Hk := Lib.hid (kind_yes (vert := true) hh)
  case' neg =>
    have hh' : hasG G line ((i : Int) - 40) = false := by simpa using hh
    clear hh
    have Hk := Lib.hid (kind_no (vert := true) hh')
  all_goals
    clear hC
    go_enter Try.func118, Try.ntmps118
    go_wp2
    go_quiet (fail)
    go_wp2_with (go_at_call 108; refine (has_any g G line ((i : Int) - 40) _ (hg.drewN _)).mono ?_; rintro e w1 ⟨rfl, hb1⟩)
    go_ret
    exact ⟨ret_int Hk.out.symm, (below_drewN (Below.refl _ w) _).trans hb1⟩

set_option maxHeartbeats 400000 in
theorem at_h (i : Nat) (Lb Vb Cb g : Nat) (line : Int) (G : Gr) (w : World) (hC : CapG w Lb Vb Cb g line false G) (hi : i ≤ 80) :
    Calls Try.prog 118 #[.int .i64 i, .pointer (some ⟨Lb, 0, none⟩), .pointer (some ⟨Vb, 0, none⟩), .pointer (some ⟨Cb, 0, none⟩)] w fun e w' => e = .returned (.int .i64 (kindG G false line ((i : Int) - 40))) ∧ Below w.heap.size w w' := by
  have c0 := hC.l.cell 0
  have c1 := hC.v.cell 0
  have c2 := hC.c.cell 0
  have hg := hC.g
  simp only [List.getElem?_toArray, List.getElem?_cons_zero] at c0 c1 c2
  by_cases hh : hasG G ((i : Int) - 40) line = true
  case' pos => have Hk := Lib.hid (kind_yes (vert := false) hh)
  case' neg =>
    have hh' : hasG G ((i : Int) - 40) line = false := by simpa using hh
    clear hh
    have Hk := Lib.hid (kind_no (vert := false) hh')
  all_goals
    clear hC
    go_enter Try.func118, Try.ntmps118
    go_wp2
    go_quiet (fail)
    go_wp2_with (go_at_call 108; refine (has_any g G ((i : Int) - 40) line _ (hg.drewN _)).mono ?_; rintro e w1 ⟨rfl, hb1⟩)
    go_ret
    exact ⟨ret_int Hk.out.symm, (below_drewN (Below.refl _ w) _).trans hb1⟩

theorem Below.undrewN {B n : Nat} {w w' : World} (h : Below B (w.drewN n) w') : Below B w w' := ⟨h.os, h.tape, h.output, h.size, h.block⟩
theorem Below.undrew {B : Nat} {w w' : World} (h : Below B w.drew w') : Below B w w' := ⟨h.os, h.tape, h.output, h.size, h.block⟩
/-- What a cell holds, whatever it is. -/
def cellOr (w : World) (a : Addr) : Value := (w.cell? a).getD (.bool false)
theorem cellOr_some {w : World} {a : Addr} {u : Value} (h : w.cell? a = some u) : w.cell? a = some (cellOr w a) := by rw [cellOr, h]; rfl
theorem cellOr_eq {w : World} {a : Addr} {u : Value} (h : w.cell? a = some u) : cellOr w a = u := by rw [cellOr, h]; rfl
theorem Bk.ne {w : World} {b b' : Nat} {t t' : TypeId} {cs cs' : Array Value} (h : Bk w b t cs) (h' : Bk w b' t' cs') (hne : t ≠ t') : b ≠ b' := by
  rintro rfl
  unfold Bk at h h'
  rw [h] at h'
  simp at h'
  exact hne h'.2
/-- A block of another element type is not the row's. -/
theorem Bk.apart {w : World} {b : Nat} {t e : TypeId} {cs : Array Value} {B s n : Nat} {v : Value} {xs : List Value} (h : Bk w b t cs) (ho : w.ownsRow B e s v n xs) (hne : t ≠ e) : some b ≠ v.ownBlock := by
  intro he
  rcases ho.2 with ⟨rfl, _⟩ | ⟨g, cap, cur, rfl, _, hh, _⟩
  · simp [Value.ownBlock] at he
  · simp [Value.ownBlock] at he
    subst he
    unfold Bk at h
    rw [hh] at h
    simp at h
    exact hne h.2.symm

set_option maxHeartbeats 800000 in
set_option maxRecDepth 100000 in
/-- The call of lineRect as one step of a region that draws its order. -/
theorem step_line {W : World} {ops : Array Oper} {o : Oper} {a : Act} {K : Act → World → Prop} {Q : Exit → Act → World → Prop} {E : Prop} (hgd : o.guard = none) (x0 x1 x2 x3 : Operand)
    (ho : o.op = .call { callee := .value (.func 120), args := #[x0, x1, x2, x3], argTypes := #[2, 2, 2, 4] })
    (v0 v1 v2 v3 r : Value) (h0 : a.eval x0 = v0) (h1 : a.eval x1 = v1) (h2 : a.eval x2 = v2) (h3 : a.eval x3 = v3)
    (hc : Calls Try.prog 120 #[v0, v1, v2, v3] W fun e w' => e = .returned r ∧ Below W.heap.size W w')
    (h : ∀ w1, Below W.heap.size W w1 → K (a.put o.dst r) w1) :
    if Region.wanted o (yielded ops a.tmps) = true then Oper.wp Try.prog o a W K Q else E := by
  rw [if_pos (by simp [Region.wanted, hgd])]
  unfold Oper.wp
  simp [execOp, ho, resolve, invoke, h0, h1, h2, h3, Oper.upon, Result.andThen]
  refine Calls.mono hc fun e w1 he => ?_
  obtain ⟨rfl, hb⟩ := he
  exact h w1 hb

theorem CapG.alloc {w : World} {Lb Vb Cb g : Nat} {line : Int} {vert : Bool} {G : Gr} (h : CapG w Lb Vb Cb g line vert G) (o : Obj) : CapG (w.alloc o) Lb Vb Cb g line vert G := ⟨h.l.alloc o, h.v.alloc o, h.c.alloc o, h.g.alloc o⟩
/-- An append to a list of rectangles keeps them. -/
theorem CapG.grown {w w' : World} {Lb Vb Cb g : Nat} {line : Int} {vert : Bool} {G : Gr} {B : Nat} {v : Value} {rs : List Rc} (h : CapG w Lb Vb Cb g line vert G) (hR : RL w B v rs) (hg : w.grownBy w' v.ownBlock) : CapG w' Lb Vb Cb g line vert G :=
  ⟨h.l.grown hg (h.l.apart hR (by decide)), h.v.grown hg (h.v.apart hR (by decide)), h.c.grown hg (h.c.apart hR (by decide)), h.g.grown hg (let ⟨_, h1, _⟩ := h.g; h1.apart hR (by decide))⟩
/-- .. and so does a store of a list of rectangles into a variable. -/
theorem CapG.store {w : World} {Lb Vb Cb g Ob : Nat} {line : Int} {vert : Bool} {G : Gr} {cs : Array Value} (h : CapG w Lb Vb Cb g line vert G) (hO : Bk w Ob 24 cs) (i : Nat) (u : Value) : CapG (w.setCell ⟨Ob, i, none⟩ u) Lb Vb Cb g line vert G :=
  ⟨h.l.other (p := ⟨Ob, i, none⟩) (h.l.ne hO (by decide)) u, h.v.other (p := ⟨Ob, i, none⟩) (h.v.ne hO (by decide)) u, h.c.other (p := ⟨Ob, i, none⟩) (h.c.ne hO (by decide)) u, h.g.other (p := ⟨Ob, i, none⟩) (let ⟨_, h1, _⟩ := h.g; h1.ne hO (by decide)) u⟩

set_option maxRecDepth 100000 in
theorem yield_v (f t k : Int) (B Ob Lb Vb Cb g : Nat) (line : Int) (G : Gr) (rs : List Rc) (w : World) (hC : CapG w Lb Vb Cb g line true G) (v0 : Value) (hO : Bk w Ob 24 #[v0]) (hR : RL w B v0 rs) (hB : B ≤ w.heap.size) (hOb : B ≤ Ob) (hl : rs.length ≤ 1000000) (hline : -1000 ≤ line ∧ line ≤ 1000) :
    Calls Try.prog 119 #[.int .i64 f, .int .i64 t, .int .i64 k, .pointer (some ⟨Ob, 0, none⟩), .pointer (some ⟨Lb, 0, none⟩), .pointer (some ⟨Vb, 0, none⟩)] w fun e w' => e = .returned (.tuple #[]) ∧ CapG w' Lb Vb Cb g line true G ∧ Below B w w' ∧ ∃ v', Bk w' Ob 24 #[v'] ∧ RL w' B v' (rs ++ [⟨line, f, line + 1, t⟩]) := by
  have c0 := hC.l.cell 0
  have c1 := hC.v.cell 0
  have c2 := hO.cell 0
  have f2 := hO.frozen 0
  simp only [List.getElem?_toArray, List.getElem?_cons_zero] at c0 c1 c2
  have n2 := hO.apart hR (by decide)
  go_enter Try.func119, Try.ntmps119
  go_wp2
  go_region_law (first | (refine step_line rfl (.tmp 10) (.tmp 11) (.tmp 12) (.tmp 13) rfl _ _ _ _ _ rfl rfl rfl rfl (lineRect_v line f t hline _) ?_; intro w1 hb0; have hb1 := Below.undrew hb0; have hR1 := hR.on hb1; have hO1 := hO.on hb1; have d2 := hO1.cell 0; have da := fun o => (hO1.alloc o).cell 0; simp only [List.getElem?_toArray, List.getElem?_cons_zero] at d2 da)
                       | (refine step_append_R rfl (.tmp 9) (.tmp 15) rfl B _ rs rfl (hR1.alloc _) _ _ _ _ _ rfl (Bk.new w1 _ _) hl (by have := hb1.size; simp; omega) ?_; intro v1 w6 ho1 hg1 hb6; obtain ⟨A1, c1, rfl, -, -, -⟩ := ho1.form; have hO6 := (hO1.alloc _).grown hg1 n2; have d6 := hO6.cell 0; have f6 := hO6.frozen 0; simp only [List.getElem?_toArray, List.getElem?_cons_zero] at d6))
  all_goals
    go_end0
    refine ⟨rfl, ?_, ?_, _, hO6.store 0 _, ?_⟩
    · exact (((hC.on hb1).alloc _).grown (hR1.alloc _) hg1).store hO6 0 _
    · exact ((((Below.refl B w).trans (hb1.mono hB)).alloc (Nat.le_trans hB hb1.size) _).trans hb6).setCell (by simpa using hOb) _
    · have e1 : rs.length + 1 = (rs ++ [(⟨line, f, line + 1, t⟩ : Rc)]).length := by simp
      rw [e1]
      exact own_other ho1 (p := ⟨Ob, 0, none⟩) (fun he => hO6.apart ho1 (by decide) he.symm) _

set_option maxRecDepth 100000 in
theorem yield_h (f t k : Int) (B Ob Lb Vb Cb g : Nat) (line : Int) (G : Gr) (rs : List Rc) (w : World) (hC : CapG w Lb Vb Cb g line false G) (v0 : Value) (hO : Bk w Ob 24 #[v0]) (hR : RL w B v0 rs) (hB : B ≤ w.heap.size) (hOb : B ≤ Ob) (hl : rs.length ≤ 1000000) (hline : -1000 ≤ line ∧ line ≤ 1000) :
    Calls Try.prog 119 #[.int .i64 f, .int .i64 t, .int .i64 k, .pointer (some ⟨Ob, 0, none⟩), .pointer (some ⟨Lb, 0, none⟩), .pointer (some ⟨Vb, 0, none⟩)] w fun e w' => e = .returned (.tuple #[]) ∧ CapG w' Lb Vb Cb g line false G ∧ Below B w w' ∧ ∃ v', Bk w' Ob 24 #[v'] ∧ RL w' B v' (rs ++ [⟨f, line, t, line + 1⟩]) := by
  have c0 := hC.l.cell 0
  have c1 := hC.v.cell 0
  have c2 := hO.cell 0
  have f2 := hO.frozen 0
  simp only [List.getElem?_toArray, List.getElem?_cons_zero] at c0 c1 c2
  have n2 := hO.apart hR (by decide)
  go_enter Try.func119, Try.ntmps119
  go_wp2
  go_region_law (first | (refine step_line rfl (.tmp 10) (.tmp 11) (.tmp 12) (.tmp 13) rfl _ _ _ _ _ rfl rfl rfl rfl (lineRect_h line f t hline _) ?_; intro w1 hb0; have hb1 := Below.undrew hb0; have hR1 := hR.on hb1; have hO1 := hO.on hb1; have d2 := hO1.cell 0; have da := fun o => (hO1.alloc o).cell 0; simp only [List.getElem?_toArray, List.getElem?_cons_zero] at d2 da)
                       | (refine step_append_R rfl (.tmp 9) (.tmp 15) rfl B _ rs rfl (hR1.alloc _) _ _ _ _ _ rfl (Bk.new w1 _ _) hl (by have := hb1.size; simp; omega) ?_; intro v1 w6 ho1 hg1 hb6; obtain ⟨A1, c1, rfl, -, -, -⟩ := ho1.form; have hO6 := (hO1.alloc _).grown hg1 n2; have d6 := hO6.cell 0; have f6 := hO6.frozen 0; simp only [List.getElem?_toArray, List.getElem?_cons_zero] at d6))
  all_goals
    go_end0
    refine ⟨rfl, ?_, ?_, _, hO6.store 0 _, ?_⟩
    · exact (((hC.on hb1).alloc _).grown (hR1.alloc _) hg1).store hO6 0 _
    · exact ((((Below.refl B w).trans (hb1.mono hB)).alloc (Nat.le_trans hB hb1.size) _).trans hb6).setCell (by simpa using hOb) _
    · have e1 : rs.length + 1 = (rs ++ [(⟨f, line, t, line + 1⟩ : Rc)]).length := by simp
      rw [e1]
      exact own_other ho1 (p := ⟨Ob, 0, none⟩) (fun he => hO6.apart ho1 (by decide) he.symm) _

/-- The first literal: what kind of cell lies at place i of the line. -/
theorem at_any (i : Nat) (Lb Vb Cb g : Nat) (line : Int) (vert : Bool) (G : Gr) (w : World) (hC : CapG w Lb Vb Cb g line vert G) (hi : i ≤ 80) :
    Calls Try.prog 118 #[.int .i64 i, .pointer (some ⟨Lb, 0, none⟩), .pointer (some ⟨Vb, 0, none⟩), .pointer (some ⟨Cb, 0, none⟩)] w fun e w' => e = .returned (.int .i64 (kindG G vert line ((i : Int) - 40))) ∧ Below w.heap.size w w' := by
  cases vert
  · exact at_h i Lb Vb Cb g line G w hC hi
  · exact at_v i Lb Vb Cb g line G w hC hi
/-- The second literal: one run more. -/
theorem yield_any (f t k : Int) (B Ob Lb Vb Cb g : Nat) (line : Int) (vert : Bool) (G : Gr) (rs : List Rc) (w : World) (hC : CapG w Lb Vb Cb g line vert G) (v0 : Value) (hO : Bk w Ob 24 #[v0]) (hR : RL w B v0 rs) (hB : B ≤ w.heap.size) (hOb : B ≤ Ob) (hl : rs.length ≤ 1000000) (hline : -1000 ≤ line ∧ line ≤ 1000) :
    Calls Try.prog 119 #[.int .i64 f, .int .i64 t, .int .i64 k, .pointer (some ⟨Ob, 0, none⟩), .pointer (some ⟨Lb, 0, none⟩), .pointer (some ⟨Vb, 0, none⟩)] w fun e w' => e = .returned (.tuple #[]) ∧ CapG w' Lb Vb Cb g line vert G ∧ Below B w w' ∧ ∃ v', Bk w' Ob 24 #[v'] ∧ RL w' B v' (rs ++ [lineR vert line f t]) := by
  cases vert
  · exact yield_h f t k B Ob Lb Vb Cb g line G rs w hC v0 hO hR hB hOb hl hline
  · exact yield_v f t k B Ob Lb Vb Cb g line G rs w hC v0 hO hR hB hOb hl hline

end Go.Proofs.Ythifinolgbjekaa
