/- Contracts: the reference's l17Run. Condition: the cell lies on the chip. Contracts: the reference's l17Runs and l17All. No conditions. Contracts: the program's lineRect and the two function literals of runsOf. No conditions. Contracts: the program's runs, with the literals of runsOf. No conditions. Contracts: the program's runsOf and allRuns. No conditions. Contracts: the reference's l17All and the program's allRuns. Condition of allRuns: the rectangles are valid. -/
import Derived.Test.YtjiljodchebniaaGreatQ03
import Derived.Test.YtjiljodchebniaaGreatQ01
import Derived.Test.YtjiljodchebniaaGreatQ02
import Derived.Deep.RegionHeld3
import Derived.Laws.AppendOwnNone

namespace Go.Proofs.YtjiljodchebniaaGreat
open Go.RowKit

theorem GS.alloc {w : World} {B : Nat} {v : Value} {G : Gr} (h : GS w B v G) (o : Obj) : GS (w.alloc o) B v G := h.on ((Below.refl _ _).alloc (Nat.le_refl _) o)

end Go.Proofs.YtjiljodchebniaaGreat

namespace Go.Proofs.YtjiljodchebniaaGreat
open Go.RowKit

theorem startG_no {G : Gr} {vert : Bool} {a t : Int} (h : lnG G vert a t = false) : startG G vert a t = false := by unfold startG; rw [h]; rfl
theorem startG_on {G : Gr} {vert : Bool} {a t : Int} (h : lnG G vert a (t - 1) = true) : startG G vert a t = false := by unfold startG; rw [h]; cases lnG G vert a t <;> rfl
theorem startG_yes {G : Gr} {vert : Bool} {a t : Int} (h : lnG G vert a t = true) (h0 : lnG G vert a (t - 1) = false) : startG G vert a t = true := by unfold startG; rw [h, h0]; rfl
theorem line_step {G : Gr} {vert : Bool} {a k : Nat} {out rest full : List Rc} (h : out ++ (restL G vert ((a : Int) - 40) k ++ rest) = full) (hk : k < 80) (hs : startG G vert ((a : Int) - 40) ((k : Int) - 40) = false) : out ++ (restL G vert ((a : Int) - 40) (k + 1) ++ rest) = full := by
  rw [restL_off G vert _ hk hs] at h; exact h
theorem line_run {G : Gr} {vert : Bool} {a k : Nat} {out rest full : List Rc} {r : Rc} (h : out ++ (restL G vert ((a : Int) - 40) k ++ rest) = full) (hk : k < 80) (hs : startG G vert ((a : Int) - 40) ((k : Int) - 40) = true) (hr : r = lineR vert ((a : Int) - 40) ((k : Int) - 40) (stopG G vert ((a : Int) - 40) ((k : Int) - 40))) : (out ++ [r]) ++ (restL G vert ((a : Int) - 40) (k + 1) ++ rest) = full := by
  rw [restL_on G vert _ hk hs] at h
  rw [← h, hr]
  simp
theorem line_end {G : Gr} {vert : Bool} {a k : Nat} {out rest full : List Rc} (h : out ++ (restL G vert ((a : Int) - 40) k ++ rest) = full) (hk : 80 ≤ k) : out ++ rest = full := by
  rw [restL_end G vert _ hk, List.nil_append] at h; exact h
theorem lines_step {G : Gr} {vert : Bool} {a : Nat} {out full : List Rc} (h : out ++ restA G vert a = full) (ha : a < 80) : out ++ (restL G vert ((a : Int) - 40) 0 ++ restA G vert (a + 1)) = full := by
  rw [restA_step G vert ha] at h; exact h
theorem lines_end {G : Gr} {vert : Bool} {a : Nat} {out full : List Rc} (h : out ++ restA G vert a = full) (ha : 80 ≤ a) : out = full := by
  rw [restA_end G vert ha, List.append_nil] at h; exact h

end Go.Proofs.YtjiljodchebniaaGreat

namespace Go.Proofs.YtjiljodchebniaaGreat
open Go.RowKit

theorem lineRect_v (a f t : Int) (h : -1000 ≤ a ∧ a ≤ 1000) (w : World) : Calls Tryz.prog 164 #[.int .i64 a, .int .i64 f, .int .i64 t, .bool true] w fun e w' => e = .returned (.agg #[.int .i64 a, .int .i64 f, .int .i64 (a + 1), .int .i64 t]) ∧ Below w.heap.size w w' := by
  go_enter Tryz.func164, Tryz.ntmps164
  go_wp2
  refine bodyPost_ret (v := .agg #[.int .i64 a, .int .i64 f, .int .i64 (a + 1), .int .i64 t]) (by simp [results, Tryz.results164, go_sem]) rfl ⟨rfl, ?_⟩
  exact (Below.refl _ _).alloc (Nat.le_refl _) _
theorem lineRect_h (a f t : Int) (h : -1000 ≤ a ∧ a ≤ 1000) (w : World) : Calls Tryz.prog 164 #[.int .i64 a, .int .i64 f, .int .i64 t, .bool false] w fun e w' => e = .returned (.agg #[.int .i64 f, .int .i64 a, .int .i64 t, .int .i64 (a + 1)]) ∧ Below w.heap.size w w' := by
  go_enter Tryz.func164, Tryz.ntmps164
  go_wp2
  refine bodyPost_ret (v := .agg #[.int .i64 f, .int .i64 a, .int .i64 t, .int .i64 (a + 1)]) (by simp [results, Tryz.results164, go_sem]) rfl ⟨rfl, ?_⟩
  exact (Below.refl _ _).alloc (Nat.le_refl _) _

/-- What kind of cell lies at t: 1 if it is of the set. -/
def kindG (G : Gr) (vert : Bool) (a t : Int) : Int := if lnG G vert a t = true then 1 else 0
theorem kind_yes {G : Gr} {vert : Bool} {a t : Int} (h : lnG G vert a t = true) : kindG G vert a t = 1 := if_pos h
theorem kind_no {G : Gr} {vert : Bool} {a t : Int} (h : lnG G vert a t = false) : kindG G vert a t = 0 := if_neg (by rw [h]; simp)
theorem ret_int {a b : Int} (h : a = b) : Ending.returned (.int .i64 a) = .returned (.int .i64 b) := by rw [h]

/-- The variables that both literals capture. -/
structure CapG (w : World) (Lb Vb Cb g : Nat) (line : Int) (vert : Bool) (G : Gr) : Prop where
  l : Bk w Lb 2 #[.int .i64 line]
  v : Bk w Vb 4 #[.bool vert]
  c : Bk w Cb 60 #[.pointer (some ⟨g, 0, none⟩)]
  g : GB w g 89 G
theorem CapG.on {w w' : World} {Lb Vb Cb g : Nat} {line : Int} {vert : Bool} {G : Gr} (h : CapG w Lb Vb Cb g line vert G) (hb : Below w.heap.size w w') : CapG w' Lb Vb Cb g line vert G := ⟨h.l.on hb, h.v.on hb, h.c.on hb, h.g.on hb⟩

set_option maxHeartbeats 400000 in
theorem at_v (i : Nat) (Lb Vb Cb g : Nat) (line : Int) (G : Gr) (w : World) (hC : CapG w Lb Vb Cb g line true G) (hi : i ≤ 80) :
    Calls Tryz.prog 162 #[.int .i64 i, .pointer (some ⟨Lb, 0, none⟩), .pointer (some ⟨Vb, 0, none⟩), .pointer (some ⟨Cb, 0, none⟩)] w fun e w' => e = .returned (.int .i64 (kindG G true line ((i : Int) - 40))) ∧ Below w.heap.size w w' := by
  have c0 := hC.l.cell 0
  have c1 := hC.v.cell 0
  have c2 := hC.c.cell 0
  have hg := hC.g
  simp only [List.getElem?_toArray, List.getElem?_cons_zero] at c0 c1 c2
  by_cases hh : hasG G line ((i : Int) - 40) = true
  case' pos => have Hk := Lib.hid (kind_yes (vert := true) hh)
  case' neg =>
    have hh' : hasG G line ((i : Int) - 40) = false := by simpa using hh
    clear hh
    have Hk := Lib.hid (kind_no (vert := true) hh')
  all_goals
    clear hC
    go_enter Tryz.func162, Tryz.ntmps162
    go_wp2
    go_quiet (fail)
    go_wp2_with (go_at_call 57; refine (has_any g G line ((i : Int) - 40) _ (hg.drewN _)).mono ?_; rintro e w1 ⟨rfl, hb1⟩)
    go_ret
    exact ⟨ret_int Hk.out.symm, (below_drewN (Below.refl _ w) _).trans hb1⟩

set_option maxHeartbeats 400000 in
theorem at_h (i : Nat) (Lb Vb Cb g : Nat) (line : Int) (G : Gr) (w : World) (hC : CapG w Lb Vb Cb g line false G) (hi : i ≤ 80) :
    Calls Tryz.prog 162 #[.int .i64 i, .pointer (some ⟨Lb, 0, none⟩), .pointer (some ⟨Vb, 0, none⟩), .pointer (some ⟨Cb, 0, none⟩)] w fun e w' => e = .returned (.int .i64 (kindG G false line ((i : Int) - 40))) ∧ Below w.heap.size w w' := by
  have c0 := hC.l.cell 0
  have c1 := hC.v.cell 0
  have c2 := hC.c.cell 0
  have hg := hC.g
  simp only [List.getElem?_toArray, List.getElem?_cons_zero] at c0 c1 c2
  by_cases hh : hasG G ((i : Int) - 40) line = true
  case' pos => have Hk := Lib.hid (kind_yes (vert := false) hh)
  case' neg =>
    have hh' : hasG G ((i : Int) - 40) line = false := by simpa using hh
    clear hh
    have Hk := Lib.hid (kind_no (vert := false) hh')
  all_goals
    clear hC
    go_enter Tryz.func162, Tryz.ntmps162
    go_wp2
    go_quiet (fail)
    go_wp2_with (go_at_call 57; refine (has_any g G ((i : Int) - 40) line _ (hg.drewN _)).mono ?_; rintro e w1 ⟨rfl, hb1⟩)
    go_ret
    exact ⟨ret_int Hk.out.symm, (below_drewN (Below.refl _ w) _).trans hb1⟩

theorem Below.undrewN {B n : Nat} {w w' : World} (h : Below B (w.drewN n) w') : Below B w w' := ⟨h.os, h.tape, h.output, h.size, h.block⟩
theorem Below.undrew {B : Nat} {w w' : World} (h : Below B w.drew w') : Below B w w' := ⟨h.os, h.tape, h.output, h.size, h.block⟩
/-- What a cell holds, whatever it is. -/
def cellOr (w : World) (a : Addr) : Value := (w.cell? a).getD (.bool false)
theorem cellOr_some {w : World} {a : Addr} {u : Value} (h : w.cell? a = some u) : w.cell? a = some (cellOr w a) := by rw [cellOr, h]; rfl
theorem cellOr_eq {w : World} {a : Addr} {u : Value} (h : w.cell? a = some u) : cellOr w a = u := by rw [cellOr, h]; rfl
theorem Bk.ne {w : World} {b b' : Nat} {t t' : TypeId} {cs cs' : Array Value} (h : Bk w b t cs) (h' : Bk w b' t' cs') (hne : t ≠ t') : b ≠ b' := by
  rintro rfl
  unfold Bk at h h'
  rw [h] at h'
  simp at h'
  exact hne h'.2
/-- A block of another element type is not the row's. -/
theorem Bk.apart {w : World} {b : Nat} {t e : TypeId} {cs : Array Value} {B s n : Nat} {v : Value} {xs : List Value} (h : Bk w b t cs) (ho : w.ownsRow B e s v n xs) (hne : t ≠ e) : some b ≠ v.ownBlock := by
  intro he
  rcases ho.2 with ⟨rfl, _⟩ | ⟨g, cap, cur, rfl, _, hh, _⟩
  · simp [Value.ownBlock] at he
  · simp [Value.ownBlock] at he
    subst he
    unfold Bk at h
    rw [hh] at h
    simp at h
    exact hne h.2.symm

set_option maxHeartbeats 800000 in
set_option maxRecDepth 100000 in
/-- The call of lineRect as one step of a region that draws its order. -/
theorem step_line {W : World} {ops : Array Oper} {o : Oper} {a : Act} {K : Act → World → Prop} {Q : Exit → Act → World → Prop} {E : Prop} (hgd : o.guard = none) (x0 x1 x2 x3 : Operand)
    (ho : o.op = .call { callee := .value (.func 164), args := #[x0, x1, x2, x3], argTypes := #[2, 2, 2, 4] })
    (v0 v1 v2 v3 r : Value) (h0 : a.eval x0 = v0) (h1 : a.eval x1 = v1) (h2 : a.eval x2 = v2) (h3 : a.eval x3 = v3)
    (hc : Calls Tryz.prog 164 #[v0, v1, v2, v3] W fun e w' => e = .returned r ∧ Below W.heap.size W w')
    (h : ∀ w1, Below W.heap.size W w1 → K (a.put o.dst r) w1) :
    if Region.wanted o (yielded ops a.tmps) = true then Oper.wp Tryz.prog o a W K Q else E := by
  rw [if_pos (by simp [Region.wanted, hgd])]
  unfold Oper.wp
  simp [execOp, ho, resolve, invoke, h0, h1, h2, h3, Oper.upon, Result.andThen]
  refine Calls.mono hc fun e w1 he => ?_
  obtain ⟨rfl, hb⟩ := he
  exact h w1 hb

theorem CapG.alloc {w : World} {Lb Vb Cb g : Nat} {line : Int} {vert : Bool} {G : Gr} (h : CapG w Lb Vb Cb g line vert G) (o : Obj) : CapG (w.alloc o) Lb Vb Cb g line vert G := ⟨h.l.alloc o, h.v.alloc o, h.c.alloc o, h.g.alloc o⟩
/-- An append to a list of rectangles keeps them. -/
theorem CapG.grown {w w' : World} {Lb Vb Cb g : Nat} {line : Int} {vert : Bool} {G : Gr} {B : Nat} {v : Value} {rs : List Rc} (h : CapG w Lb Vb Cb g line vert G) (hR : RL w B v rs) (hg : w.grownBy w' v.ownBlock) : CapG w' Lb Vb Cb g line vert G :=
  ⟨h.l.grown hg (h.l.apart hR (by decide)), h.v.grown hg (h.v.apart hR (by decide)), h.c.grown hg (h.c.apart hR (by decide)), h.g.grown hg (let ⟨_, h1, _⟩ := h.g; h1.apart hR (by decide))⟩
/-- .. and so does a store of a list of rectangles into a variable. -/
theorem CapG.store {w : World} {Lb Vb Cb g Ob : Nat} {line : Int} {vert : Bool} {G : Gr} {cs : Array Value} (h : CapG w Lb Vb Cb g line vert G) (hO : Bk w Ob 24 cs) (i : Nat) (u : Value) : CapG (w.setCell ⟨Ob, i, none⟩ u) Lb Vb Cb g line vert G :=
  ⟨h.l.other (p := ⟨Ob, i, none⟩) (h.l.ne hO (by decide)) u, h.v.other (p := ⟨Ob, i, none⟩) (h.v.ne hO (by decide)) u, h.c.other (p := ⟨Ob, i, none⟩) (h.c.ne hO (by decide)) u, h.g.other (p := ⟨Ob, i, none⟩) (let ⟨_, h1, _⟩ := h.g; h1.ne hO (by decide)) u⟩

set_option maxRecDepth 100000 in
theorem yield_v (f t k : Int) (B Ob Lb Vb Cb g : Nat) (line : Int) (G : Gr) (rs : List Rc) (w : World) (hC : CapG w Lb Vb Cb g line true G) (v0 : Value) (hO : Bk w Ob 24 #[v0]) (hR : RL w B v0 rs) (hB : B ≤ w.heap.size) (hOb : B ≤ Ob) (hl : rs.length ≤ 1000000) (hline : -1000 ≤ line ∧ line ≤ 1000) :
    Calls Tryz.prog 163 #[.int .i64 f, .int .i64 t, .int .i64 k, .pointer (some ⟨Ob, 0, none⟩), .pointer (some ⟨Lb, 0, none⟩), .pointer (some ⟨Vb, 0, none⟩)] w fun e w' => e = .returned (.tuple #[]) ∧ CapG w' Lb Vb Cb g line true G ∧ Below B w w' ∧ ∃ v', Bk w' Ob 24 #[v'] ∧ RL w' B v' (rs ++ [⟨line, f, line + 1, t⟩]) := by
  have c0 := hC.l.cell 0
  have c1 := hC.v.cell 0
  have c2 := hO.cell 0
  have f2 := hO.frozen 0
  simp only [List.getElem?_toArray, List.getElem?_cons_zero] at c0 c1 c2
  have n2 := hO.apart hR (by decide)
  go_enter Tryz.func163, Tryz.ntmps163
  go_wp2
  go_region_law (first | (refine step_line rfl (.tmp 10) (.tmp 11) (.tmp 12) (.tmp 13) rfl _ _ _ _ _ rfl rfl rfl rfl (lineRect_v line f t hline _) ?_; intro w1 hb0; have hb1 := Below.undrew hb0; have hR1 := hR.on hb1; have hO1 := hO.on hb1; have d2 := hO1.cell 0; have da := fun o => (hO1.alloc o).cell 0; simp only [List.getElem?_toArray, List.getElem?_cons_zero] at d2 da)
                       | (refine step_append_R rfl (.tmp 9) (.tmp 15) rfl B _ rs rfl (hR1.alloc _) _ _ _ _ _ rfl (Bk.new w1 _ _) hl (by have := hb1.size; simp; omega) ?_; intro v1 w6 ho1 hg1 hb6; obtain ⟨A1, c1, rfl, -, -, -⟩ := ho1.form; have hO6 := (hO1.alloc _).grown hg1 n2; have d6 := hO6.cell 0; have f6 := hO6.frozen 0; simp only [List.getElem?_toArray, List.getElem?_cons_zero] at d6))
  all_goals
    go_end0
    refine ⟨rfl, ?_, ?_, _, hO6.store 0 _, ?_⟩
    · exact (((hC.on hb1).alloc _).grown (hR1.alloc _) hg1).store hO6 0 _
    · exact ((((Below.refl B w).trans (hb1.mono hB)).alloc (Nat.le_trans hB hb1.size) _).trans hb6).setCell (by simpa using hOb) _
    · have e1 : rs.length + 1 = (rs ++ [(⟨line, f, line + 1, t⟩ : Rc)]).length := by simp
      rw [e1]
      exact own_other ho1 (p := ⟨Ob, 0, none⟩) (fun he => hO6.apart ho1 (by decide) he.symm) _

set_option maxRecDepth 100000 in
theorem yield_h (f t k : Int) (B Ob Lb Vb Cb g : Nat) (line : Int) (G : Gr) (rs : List Rc) (w : World) (hC : CapG w Lb Vb Cb g line false G) (v0 : Value) (hO : Bk w Ob 24 #[v0]) (hR : RL w B v0 rs) (hB : B ≤ w.heap.size) (hOb : B ≤ Ob) (hl : rs.length ≤ 1000000) (hline : -1000 ≤ line ∧ line ≤ 1000) :
    Calls Tryz.prog 163 #[.int .i64 f, .int .i64 t, .int .i64 k, .pointer (some ⟨Ob, 0, none⟩), .pointer (some ⟨Lb, 0, none⟩), .pointer (some ⟨Vb, 0, none⟩)] w fun e w' => e = .returned (.tuple #[]) ∧ CapG w' Lb Vb Cb g line false G ∧ Below B w w' ∧ ∃ v', Bk w' Ob 24 #[v'] ∧ RL w' B v' (rs ++ [⟨f, line, t, line + 1⟩]) := by
  have c0 := hC.l.cell 0
  have c1 := hC.v.cell 0
  have c2 := hO.cell 0
  have f2 := hO.frozen 0
  simp only [List.getElem?_toArray, List.getElem?_cons_zero] at c0 c1 c2
  have n2 := hO.apart hR (by decide)
  go_enter Tryz.func163, Tryz.ntmps163
  go_wp2
  go_region_law (first | (refine step_line rfl (.tmp 10) (.tmp 11) (.tmp 12) (.tmp 13) rfl _ _ _ _ _ rfl rfl rfl rfl (lineRect_h line f t hline _) ?_; intro w1 hb0; have hb1 := Below.undrew hb0; have hR1 := hR.on hb1; have hO1 := hO.on hb1; have d2 := hO1.cell 0; have da := fun o => (hO1.alloc o).cell 0; simp only [List.getElem?_toArray, List.getElem?_cons_zero] at d2 da)
                       | (refine step_append_R rfl (.tmp 9) (.tmp 15) rfl B _ rs rfl (hR1.alloc _) _ _ _ _ _ rfl (Bk.new w1 _ _) hl (by have := hb1.size; simp; omega) ?_; intro v1 w6 ho1 hg1 hb6; obtain ⟨A1, c1, rfl, -, -, -⟩ := ho1.form; have hO6 := (hO1.alloc _).grown hg1 n2; have d6 := hO6.cell 0; have f6 := hO6.frozen 0; simp only [List.getElem?_toArray, List.getElem?_cons_zero] at d6))
  all_goals
    go_end0
    refine ⟨rfl, ?_, ?_, _, hO6.store 0 _, ?_⟩
    · exact (((hC.on hb1).alloc _).grown (hR1.alloc _) hg1).store hO6 0 _
    · exact ((((Below.refl B w).trans (hb1.mono hB)).alloc (Nat.le_trans hB hb1.size) _).trans hb6).setCell (by simpa using hOb) _
    · have e1 : rs.length + 1 = (rs ++ [(⟨f, line, t, line + 1⟩ : Rc)]).length := by simp
      rw [e1]
      exact own_other ho1 (p := ⟨Ob, 0, none⟩) (fun he => hO6.apart ho1 (by decide) he.symm) _

/-- The first literal: what kind of cell lies at place i of the line. -/
theorem at_any (i : Nat) (Lb Vb Cb g : Nat) (line : Int) (vert : Bool) (G : Gr) (w : World) (hC : CapG w Lb Vb Cb g line vert G) (hi : i ≤ 80) :
    Calls Tryz.prog 162 #[.int .i64 i, .pointer (some ⟨Lb, 0, none⟩), .pointer (some ⟨Vb, 0, none⟩), .pointer (some ⟨Cb, 0, none⟩)] w fun e w' => e = .returned (.int .i64 (kindG G vert line ((i : Int) - 40))) ∧ Below w.heap.size w w' := by
  cases vert
  · exact at_h i Lb Vb Cb g line G w hC hi
  · exact at_v i Lb Vb Cb g line G w hC hi
/-- The second literal: one run more. -/
theorem yield_any (f t k : Int) (B Ob Lb Vb Cb g : Nat) (line : Int) (vert : Bool) (G : Gr) (rs : List Rc) (w : World) (hC : CapG w Lb Vb Cb g line vert G) (v0 : Value) (hO : Bk w Ob 24 #[v0]) (hR : RL w B v0 rs) (hB : B ≤ w.heap.size) (hOb : B ≤ Ob) (hl : rs.length ≤ 1000000) (hline : -1000 ≤ line ∧ line ≤ 1000) :
    Calls Tryz.prog 163 #[.int .i64 f, .int .i64 t, .int .i64 k, .pointer (some ⟨Ob, 0, none⟩), .pointer (some ⟨Lb, 0, none⟩), .pointer (some ⟨Vb, 0, none⟩)] w fun e w' => e = .returned (.tuple #[]) ∧ CapG w' Lb Vb Cb g line vert G ∧ Below B w w' ∧ ∃ v', Bk w' Ob 24 #[v'] ∧ RL w' B v' (rs ++ [lineR vert line f t]) := by
  cases vert
  · exact yield_h f t k B Ob Lb Vb Cb g line G rs w hC v0 hO hR hB hOb hl hline
  · exact yield_v f t k B Ob Lb Vb Cb g line G rs w hC v0 hO hR hB hOb hl hline

end Go.Proofs.YtjiljodchebniaaGreat

namespace Go.Proofs.YtjiljodchebniaaGreat
open Go.RowKit

theorem kind_eq {G : Gr} {vert : Bool} {a s t : Int} (h : lnG G vert a s = lnG G vert a t) : kindG G vert a s = kindG G vert a t := by unfold kindG; rw [h]
theorem kind_ne {G : Gr} {vert : Bool} {a s t : Int} (h : ¬ lnG G vert a s = lnG G vert a t) : ¬ kindG G vert a s = kindG G vert a t := by
  unfold kindG
  revert h
  cases lnG G vert a s <;> cases lnG G vert a t <;> simp
/-- No run is cut at i. -/
def FreshG (G : Gr) (vert : Bool) (a : Int) (i : Nat) : Prop := lnG G vert a ((i : Int) - 40) = true → lnG G vert a ((i : Int) - 41) = false
theorem fresh_zero (G : Gr) (vert : Bool) (a : Int) : FreshG G vert a 0 := fun _ => by
  rw [Bool.eq_false_iff]
  intro hc
  have := lnG_in hc
  omega
/-- All from i on below e are as i is. -/
def AlikeG (G : Gr) (vert : Bool) (a : Int) (i e : Nat) : Prop := ∀ j : Nat, i ≤ j → j < e → lnG G vert a ((j : Int) - 40) = lnG G vert a ((i : Int) - 40)
theorem alike_one (G : Gr) (vert : Bool) (a : Int) (i : Nat) : AlikeG G vert a i (i + 1) := fun j h1 h2 => by
  have : j = i := by omega
  rw [this]
theorem alike_step {G : Gr} {vert : Bool} {a : Int} {i e : Nat} (h : AlikeG G vert a i e) (he : lnG G vert a ((e : Int) - 40) = lnG G vert a ((i : Int) - 40)) : AlikeG G vert a i (e + 1) := fun j h1 h2 => by
  by_cases hj : j < e
  · exact h j h1 hj
  · have : j = e := by omega
    rw [this]; exact he
/-- The run ends at e. -/
theorem fresh_end {G : Gr} {vert : Bool} {a : Int} {i e : Nat} (h : AlikeG G vert a i e) (hi : i < e) (hne : ¬ (e < 80 ∧ lnG G vert a ((e : Int) - 40) = lnG G vert a ((i : Int) - 40))) : FreshG G vert a e := by
  intro ht
  have he := lnG_in ht
  have h1 := h (e - 1) (by omega) (by omega)
  have e1 : ((e - 1 : Nat) : Int) - 40 = (e : Int) - 41 := by omega
  rw [e1] at h1
  rw [h1]
  by_cases hc : lnG G vert a ((i : Int) - 40) = true
  · exact absurd ⟨by omega, ht.trans hc.symm⟩ hne
  · simpa using hc
theorem run_end {G : Gr} {vert : Bool} {a : Int} {i e : Nat} (hon : lnG G vert a ((i : Int) - 40) = true) (hne : ¬ (e < 80 ∧ lnG G vert a ((e : Int) - 40) = lnG G vert a ((i : Int) - 40))) : lnG G vert a ((e : Int) - 40) = false := by
  rw [Bool.eq_false_iff]
  intro ht
  have he := lnG_in ht
  exact hne ⟨by omega, ht.trans hon.symm⟩
theorem rest_set {G : Gr} {vert : Bool} {a : Int} {i e : Nat} {ps rest full : List Rc} (h : ps ++ (restL G vert a i ++ rest) = full) (hf : FreshG G vert a i) (hall : AlikeG G vert a i e) (hi : i < e) (he : e ≤ 80)
    (hon : lnG G vert a ((i : Int) - 40) = true) (hne : ¬ (e < 80 ∧ lnG G vert a ((e : Int) - 40) = lnG G vert a ((i : Int) - 40))) : (ps ++ [lineR vert a ((i : Int) - 40) ((e : Int) - 40)]) ++ (restL G vert a e ++ rest) = full := by
  rw [restL_set G vert a hi he (fun j h1 h2 => (hall j h1 h2).trans hon) (hf hon) (run_end hon hne)] at h
  rw [← h]
  simp
theorem rest_free {G : Gr} {vert : Bool} {a : Int} {i e : Nat} {ps rest full : List Rc} (h : ps ++ (restL G vert a i ++ rest) = full) (hall : AlikeG G vert a i e) (hi : i < e) (he : e ≤ 80)
    (hoff : lnG G vert a ((i : Int) - 40) = false) : ps ++ (restL G vert a e ++ rest) = full := by
  rw [restL_free G vert a hi he (fun j h1 h2 => (hall j h1 h2).trans hoff)] at h
  exact h
theorem rest_end {G : Gr} {vert : Bool} {a : Int} {i : Nat} {ps rest full : List Rc} (h : ps ++ (restL G vert a i ++ rest) = full) (hi : 80 ≤ i) : ps ++ rest = full := by
  rw [restL_end G vert a hi, List.nil_append] at h; exact h

set_option maxHeartbeats 800000 in
set_option maxRecDepth 100000 in
/-- runs: the runs of one line behind those that are there. -/
theorem runs_any (B Ob Lb Vb Cb g : Nat) (line : Int) (vert : Bool) (G : Gr) (qs rest full : List Rc) (w : World) (hC : CapG w Lb Vb Cb g line vert G) (v0 : Value) (hO : Bk w Ob 24 #[v0]) (hR : RL w B v0 qs) (hB : B ≤ w.heap.size) (hOb : B ≤ Ob) (hline : -1000 ≤ line ∧ line ≤ 1000)
    (hfull : qs ++ (restL G vert line 0 ++ rest) = full) (hl : full.length ≤ 1000000) :
    Calls Tryz.prog 55 #[.func (.func 162) #[] #[.pointer (some ⟨Lb, 0, none⟩), .pointer (some ⟨Vb, 0, none⟩), .pointer (some ⟨Cb, 0, none⟩)],
        .func (.func 163) #[] #[.pointer (some ⟨Ob, 0, none⟩), .pointer (some ⟨Lb, 0, none⟩), .pointer (some ⟨Vb, 0, none⟩)]] w fun e w' =>
      e = .returned (.tuple #[]) ∧ CapG w' Lb Vb Cb g line vert G ∧ Below B w w' ∧ ∃ v' ps, Bk w' Ob 24 #[v'] ∧ RL w' B v' ps ∧ ps ++ rest = full := by
  have Hfull := Lib.hid hfull
  have Hl := Lib.hid hl
  clear hfull hl
  go_enter Tryz.func55, Tryz.ntmps55
  go_wp2
  go_loopw [4] (fun iv wr => ∃ (i : Nat) (ps : List Rc) (v : Value), i ≤ 80 ∧ iv = .int .i64 i ∧ CapG wr Lb Vb Cb g line vert G ∧ Bk wr Ob 24 #[v] ∧ RL wr B v ps ∧ Hid (ps ++ (restL G vert line i ++ rest) = full) ∧ Hid (FreshG G vert line i) ∧ Below B w wr) (fun iv _ => (80 - intOf iv).toNat)
  case atStart => exact ⟨0, qs, v0, by omega, rfl, hC, hO, hR, Hfull, Lib.hid (fresh_zero G vert line), Below.refl _ _⟩
  case round =>
    obtain ⟨i, ps, v, hi, rfl, hC1, hO1, hR1, hps, hfr, hb1⟩ := hrel
    clear hC hO hR Hfull
    by_cases hlt : i < 80
    · go_wp2
      have hd : decide ((i : Int) < 80) = true := decide_eq_true (by omega)
      rw [hd]
      clear hd
      go_loopw [5] (fun ev wi => ∃ e : Nat, i + 1 ≤ e ∧ e ≤ 80 ∧ ev = .int .i64 e ∧ Hid (AlikeG G vert line i e) ∧ Below wr.heap.size wr wi) (fun ev _ => (80 - intOf ev).toNat)
      case atStart => exact ⟨i + 1, Nat.le_refl _, by omega, by go_num, Lib.hid (alike_one G vert line i), Below.refl _ _⟩
      case round =>
        obtain ⟨e, he0, he1, rfl, hal, hbi⟩ := hrel
        by_cases hc : e < 80 ∧ lnG G vert line ((e : Int) - 40) = lnG G vert line ((i : Int) - 40)
        · obtain ⟨he, hq⟩ := hc
          have hq' := kind_eq hq
          have Ha := Lib.hid (alike_step hal.out hq)
          clear hq hal
          have hCi := hC1.on hbi
          go_wp2_with (go_at_call 162; refine (at_any _ Lb Vb Cb g line vert G _ hCi (by omega)).mono ?_; rintro e' w3 ⟨rfl, hb3⟩; have hbi := hbi.trans (hb3.mono hbi.size); have hCi := hC1.on hbi)
          exact ⟨⟨e + 1, by omega, by omega, by go_num, Ha, hbi⟩, by simp [intOf]; omega⟩
        · have Ha := hal
          have Hfe := Lib.hid (fresh_end hal.out (by omega) hc)
          have Hc := Lib.hid hc
          have hCi := hC1.on hbi
          by_cases he : e < 80
          case' pos =>
            have hq' : ¬ kindG G vert line ((e : Int) - 40) = kindG G vert line ((i : Int) - 40) := kind_ne (fun h => hc ⟨he, h⟩)
            clear hc
          case' neg => clear hc
          all_goals
            by_cases hk : lnG G vert line ((i : Int) - 40) = true
            · have hk1 := kind_yes hk
              have Hr := Lib.hid (rest_set hps.out hfr.out hal.out (by omega) (by omega) hk Hc.out)
              have hl3 : ps.length ≤ 1000000 := Nat.le_trans (part_len hps.out (Nat.le_refl _)) Hl.out
              go_wp2_with (first | (go_at_call 162; refine (at_any _ Lb Vb Cb g line vert G _ hCi (by omega)).mono ?_; rintro e' w3 ⟨rfl, hb3⟩; have hbi := hbi.trans (hb3.mono hbi.size); have hCi := hC1.on hbi)
                                 | (go_at_call 163; refine (yield_any _ _ _ B Ob Lb Vb Cb g line vert G ps _ hCi v (hO1.on hbi) (hR1.on hbi) (Nat.le_trans hb1.size (Nat.le_trans hbi.size (Nat.le_refl _)) |> Nat.le_trans hB) hOb hl3 hline).mono ?_; rintro e' w5 ⟨rfl, hC5, hb5, v5, hO5, hR5⟩))
              exact ⟨⟨e, _, v5, by omega, rfl, hC5, hO5, hR5, Hr, Hfe, (hb1.trans (hbi.mono (Nat.le_trans hB hb1.size))).trans hb5⟩, by simp [intOf]; omega⟩
            · have hk' : lnG G vert line ((i : Int) - 40) = false := by simpa using hk
              clear hk
              have hk0 := kind_no hk'
              have Hr := Lib.hid (rest_free hps.out hal.out (by omega) (by omega) hk')
              go_wp2_with (go_at_call 162; refine (at_any _ Lb Vb Cb g line vert G _ hCi (by omega)).mono ?_; rintro e' w3 ⟨rfl, hb3⟩; have hbi := hbi.trans (hb3.mono hbi.size); have hCi := hC1.on hbi)
              exact ⟨⟨e, ps, v, by omega, rfl, hCi, hO1.on hbi, hR1.on hbi, Hr, Hfe, hb1.trans (hbi.mono (Nat.le_trans hB hb1.size))⟩, by simp [intOf]; omega⟩
    · go_wp2
      go_end0
      exact ⟨rfl, hC1, hb1, v, ps, hO1, hR1, rest_end hps.out (by omega)⟩

end Go.Proofs.YtjiljodchebniaaGreat

namespace Go.Proofs.YtjiljodchebniaaGreat
open Go.RowKit

/-- The integer that a pointer leads to. -/
def lineOf (w : World) : Value → Int
  | .pointer (some a) => intOf ((w.cell? a).getD (.bool false))
  | _ => 0
theorem lineOf_bk {w : World} {b : Nat} {t : TypeId} {x : Int} (h : Bk w b t #[.int .i64 x]) : lineOf w (.pointer (some ⟨b, 0, none⟩)) = x := by
  have := h.cell 0
  simp only [List.getElem?_toArray, List.getElem?_cons_zero] at this
  simp [lineOf, this, intOf]

theorem Bk.new' (w : World) (n : Nat) (t : TypeId) (cs : Array Value) (h : w.heap.size = n) : Bk (w.alloc (.cells cs t)) n t cs := h ▸ Bk.new w t cs

/-- An empty list of the call's own. -/
theorem row_empty (w : World) (B n : Nat) (h : w.heap.size = n) (hB : B ≤ n) : RL (w.alloc (.cells #[] 75)) B (.slice (some ⟨n, 0, none⟩) 0 0) [] := by
  subst h
  exact own_less (World.ownsRow_lit w #[] 0 (Nat.le_refl _) (Nat.zero_le _) rfl) hB

set_option maxHeartbeats 800000 in
set_option maxRecDepth 100000 in
/-- runsOf. -/
theorem runsOf_any (g : Nat) (vert : Bool) (G : Gr) (w : World) (hG : GB w g 89 G) :
    Calls Tryz.prog 140 #[.pointer (some ⟨g, 0, none⟩), .bool vert] w fun e w' => ∃ u, e = .returned u ∧ RL w' w.heap.size u (runsG G vert) ∧ Below w.heap.size w w' := by
  have Hlen := Lib.hid (runsG_length G vert)
  go_enter Tryz.func140, Tryz.ntmps140
  go_wp2
  go_loopw [6] (fun lv wr => ∃ (a : Nat) (ps : List Rc) (v : Value) (Lb : Nat), a ≤ 80 ∧ lv = .pointer (some ⟨Lb, 0, none⟩) ∧ CapG wr Lb (w.heap.size + 1) w.heap.size g ((a : Int) - 40) vert G ∧ Bk wr (w.heap.size + 3) 24 #[v] ∧ RL wr w.heap.size v ps ∧ Hid (ps ++ restA G vert a = runsG G vert) ∧ w.heap.size ≤ Lb ∧ Below w.heap.size w wr) (fun lv wr => (40 - lineOf wr lv).toNat)
  case atStart =>
    refine ⟨0, [], _, w.heap.size + 1 + 1 + 1 + 1, by omega, rfl, ⟨Bk.new' _ _ _ _ (by simp), ((((Bk.new' _ _ _ _ (by simp)).alloc _).alloc _).alloc _), (((((Bk.new w _ _).alloc _).alloc _).alloc _).alloc _), ((((((hG.alloc _).alloc _).alloc _).alloc _).alloc _))⟩, ((Bk.new' _ _ _ _ (by simp)).alloc _), ?_, Lib.hid (runsG_start G vert), by omega, ?_⟩
    · refine RL.alloc (RL.alloc ?_ _) _
      exact row_empty _ _ _ (by simp) (by omega)
    · exact (((((Below.refl _ w).alloc (Nat.le_refl _) _).alloc (by simp) _).alloc (by simp; omega) _).alloc (by simp; omega) _).alloc (by simp; omega) _
  case round =>
    obtain ⟨a, ps, v, Lb, ha, rfl, hC, hO, hR, hps, hLb, hb⟩ := hrel
    clear hG
    by_cases hlt : a < 80
    · have c0 := hC.l.cell 0
      simp only [List.getElem?_toArray, List.getElem?_cons_zero] at c0
      have Hps := Lib.hid (lines_step hps.out hlt)
      have hB := hb.size
      go_wp2_with (go_at_call 55; refine (runs_any w.heap.size (w.heap.size + 3) Lb (w.heap.size + 1) w.heap.size g ((a : Int) - 40) vert G ps (restA G vert (a + 1)) (runsG G vert) _ hC v hO hR hB (by omega) (by omega) Hps.out (Nat.le_trans Hlen.out (by omega))).mono ?_; rintro e w1 ⟨rfl, hC1, hb1, v1, ps1, hO1, hR1, hps1⟩; have Hps1 := Lib.hid hps1; have d0 := hC1.l.cell 0; simp only [List.getElem?_toArray, List.getElem?_cons_zero] at d0; clear hps1)
      have ea : (a : Int) - 40 + 1 = ((a + 1 : Nat) : Int) - 40 := by omega
      rw [ea]
      refine ⟨⟨a + 1, ps1, v1, w1.heap.size, by omega, rfl, ⟨Bk.new _ _ _, hC1.v.alloc _, hC1.c.alloc _, hC1.g.alloc _⟩, hO1.alloc _, hR1.alloc _, Hps1, Nat.le_trans hB hb1.size, (hb.trans hb1).alloc (Nat.le_trans hB hb1.size) _⟩, ?_⟩
      rw [lineOf_bk hC.l, lineOf_bk (Bk.new _ _ _)]
      omega
    · have c0 := hC.l.cell 0
      have c1 := hO.cell 0
      simp only [List.getElem?_toArray, List.getElem?_cons_zero] at c0 c1
      have He := Lib.hid (lines_end hps.out (by omega))
      go_wp2
      go_ret
      rw [← He.out]
      exact ⟨_, rfl, hR, hb⟩

end Go.Proofs.YtjiljodchebniaaGreat

namespace Go.Proofs.YtjiljodchebniaaGreat
open Go.RowKit

/-- 'append(a, b...)', a a list of the call's own. -/
theorem wpList_append_RR {w : World} {ops : Array Oper} {rest : List Oper} {o : Oper} {a : Act} {Q : Exit → Act → World → Prop} (hgd : o.guard = none) (s x : Operand)
    (ho : o.op = .call { callee := .builtin .append, args := #[s, x], argTypes := #[24, 24] })
    (B B' : Nat) (v u : Value) (rs qs : List Rc) (hs : a.eval s = v) (hown : RL w B v rs) (hx : a.eval x = u) (hu : RL w B' u qs)
    (hlen : rs.length + qs.length ≤ 1000000) (hB : B ≤ w.heap.size)
    (h : ∀ v' w', RL w' B v' (rs ++ qs) → Below B w w' → wpList Tryz.prog ops Q rest (a.put o.dst v') w') :
    wpList Tryz.prog ops Q (o :: rest) a w := by
  obtain ⟨i, hi, hz, hsz, hby⟩ := info_parts infoRect
  have hu0 := hu
  unfold RL at hu
  rcases hu.2 with ⟨hv, hn⟩ | ⟨g, cap, cur, hv, hg, hh, hnc, hcm, hcs, htake⟩
  · have hq : qs = [] := List.length_eq_zero_iff.1 hn
    subst hq
    refine wpList_append_own_none hgd s x 24 ho B 75 i 4 Tryz.underlying24 hi v rs.length (flatR rs) hs hown (hx.trans hv) ?_
    exact h v w (by rw [List.append_nil]; exact hown) (Below.refl _ _)
  · refine wpList_append_own _ hgd s x 24 ho B 75 i _ 4 32 Tryz.underlying24 hi hz hsz hby rfl (by decide) v rs.length (flatR rs) hs hown ⟨g, 0, none⟩ qs.length cap
      (flatR qs) (hx.trans hv) (flatR_length qs) ?_ ?_ (by simp only [maxLen]; omega) (by omega) hB ?_
    · intro j y hy
      rw [Addr.add_lit, Nat.zero_add, cell_of_row w g j cur _ (0, 0) hh]
      rw [← htake, List.getElem?_take] at hy
      split at hy
      · simpa using hy
      · cases hy
    · intro y hy
      simp only [flatR, List.mem_flatMap, Rc.vals] at hy
      obtain ⟨r, _, hy⟩ := hy
      simp at hy
      rcases hy with rfl | rfl | rfl | rfl <;> rfl
    · intro v' w' h1 h2 _
      refine h v' w' ?_ (below_own hown h2 hB)
      unfold RL
      rw [flatR_append, List.length_append]
      exact h1

set_option maxRecDepth 100000 in
/-- allRuns. -/
theorem allRuns_any (v : Value) (rs : List Rc) (w : World) (hv : RL w 0 v rs) : Calls Tryz.prog 112 #[v] w fun e w' => ∃ u, e = .returned u ∧ RL w' w.heap.size u (allG (cellsG rs)) ∧ Below w.heap.size w w' := by
  have h1 := runsG_length (cellsG rs) false
  have h2 := runsG_length (cellsG rs) true
  have flag : True := trivial
  go_enter Tryz.func112, Tryz.ntmps112
  go_wp2_with (first | (go_at_call 24; refine (cellsOf_any v rs _ hv).mono ?_; rintro e w0 ⟨g, rfl, hg, hG, hb0⟩; have hB0 := hb0.size)
                     | (go_at_call 140; clear flag; refine (runsOf_any g false (cellsG rs) _ hG).mono ?_; rintro e w1 ⟨u1, rfl, hR1, hb1⟩; have hG := hG.on hb1)
                     | (go_at_call 140; refine (runsOf_any g true (cellsG rs) _ hG).mono ?_; rintro e w2 ⟨u2, rfl, hR2, hb2⟩; have hb := hb1.trans (hb2.mono hb1.size))
                     | (at_builtin; refine wpList_append_RR rfl (.tmp 7) (.tmp 9) rfl w0.heap.size w1.heap.size _ _ _ _ rfl (hR1.on hb2) rfl hR2 (by omega) hb.size ?_; intro v' w3 hR3 hb3))
  go_ret
  exact ⟨_, rfl, hR3.less hB0, hb0.trans ((hb.trans hb3).mono hB0)⟩

end Go.Proofs.YtjiljodchebniaaGreat
