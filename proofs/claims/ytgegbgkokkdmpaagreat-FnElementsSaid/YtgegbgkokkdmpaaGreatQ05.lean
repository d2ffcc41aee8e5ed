/- Contracts: the reference's l17Run. Condition: the cell lies on the chip. Contracts: the reference's l17Runs and l17All. No conditions. Contracts: the program's lineRect and the two function literals of runsOf. No conditions. Contracts: the program's runs, with the literals of runsOf. No conditions. Contracts: the program's runsOf and allRuns. No conditions. Contracts: the reference's l17All and the program's allRuns. Condition of allRuns: the rectangles are valid. -/
import Derived.Test.YtgegbgkokkdmpaaGreatQ04
import Derived.Test.YtgegbgkokkdmpaaGreatQ01
import Derived.Test.YtgegbgkokkdmpaaGreatQ02
import Derived.Deep.RegionHeld3
import Derived.Laws.AppendOwnNone

namespace Go.Proofs.YtgegbgkokkdmpaaGreat
open Go.RowKit

theorem GS.alloc {w : World} {B : Nat} {v : Value} {G : Gr} (h : GS w B v G) (o : Obj) : GS (w.alloc o) B v G := h.on ((Below.refl _ _).alloc (Nat.le_refl _) o)

end Go.Proofs.YtgegbgkokkdmpaaGreat

namespace Go.Proofs.YtgegbgkokkdmpaaGreat
open Go.RowKit

theorem startG_no {G : Gr} {vert : Bool} {a t : Int} (h : lnG G vert a t = false) : startG G vert a t = false := by unfold startG; rw [h]; rfl
theorem startG_on {G : Gr} {vert : Bool} {a t : Int} (h : lnG G vert a (t - 1) = true) : startG G vert a t = false := by unfold startG; rw [h]; cases lnG G vert a t <;> rfl
theorem startG_yes {G : Gr} {vert : Bool} {a t : Int} (h : lnG G vert a t = true) (h0 : lnG G vert a (t - 1) = false) : startG G vert a t = true := by unfold startG; rw [h, h0]; rfl
theorem line_step {G : Gr} {vert : Bool} {a k : Nat} {out rest full : List Rc} (h : out ++ (restL G vert ((a : Int) - 40) k ++ rest) = full) (hk : k < 80) (hs : startG G vert ((a : Int) - 40) ((k : Int) - 40) = false) : out ++ (restL G vert ((a : Int) - 40) (k + 1) ++ rest) = full := by
  rw [restL_off G vert _ hk hs] at h; exact h
theorem line_run {G : Gr} {vert : Bool} {a k : Nat} {out rest full : List Rc} {r : Rc} (h : out ++ (restL G vert ((a : Int) - 40) k ++ rest) = full) (hk : k < 80) (hs : startG G vert ((a : Int) - 40) ((k : Int) - 40) = true) (hr : r = lineR vert ((a : Int) - 40) ((k : Int) - 40) (stopG G vert ((a : Int) - 40) ((k : Int) - 40))) : (out ++ [r]) ++ (restL G vert ((a : Int) - 40) (k + 1) ++ rest) = full := by
  rw [restL_on G vert _ hk hs] at h
  rw [← h, hr]
  simp
theorem line_end {G : Gr} {vert : Bool} {a k : Nat} {out rest full : List Rc} (h : out ++ (restL G vert ((a : Int) - 40) k ++ rest) = full) (hk : 80 ≤ k) : out ++ rest = full := by
  rw [restL_end G vert _ hk, List.nil_append] at h; exact h
theorem lines_step {G : Gr} {vert : Bool} {a : Nat} {out full : List Rc} (h : out ++ restA G vert a = full) (ha : a < 80) : out ++ (restL G vert ((a : Int) - 40) 0 ++ restA G vert (a + 1)) = full := by
  rw [restA_step G vert ha] at h; exact h
theorem lines_end {G : Gr} {vert : Bool} {a : Nat} {out full : List Rc} (h : out ++ restA G vert a = full) (ha : 80 ≤ a) : out = full := by
  rw [restA_end G vert ha, List.append_nil] at h; exact h

end Go.Proofs.YtgegbgkokkdmpaaGreat

namespace Go.Proofs.YtgegbgkokkdmpaaGreat
open Go.RowKit

/-- What kind of cell lies at t: 1 if it is of the set. -/
def kindG (G : Gr) (vert : Bool) (a t : Int) : Int := if lnG G vert a t = true then 1 else 0
theorem kind_yes {G : Gr} {vert : Bool} {a t : Int} (h : lnG G vert a t = true) : kindG G vert a t = 1 := if_pos h
theorem kind_no {G : Gr} {vert : Bool} {a t : Int} (h : lnG G vert a t = false) : kindG G vert a t = 0 := if_neg (by rw [h]; simp)
theorem ret_int {a b : Int} (h : a = b) : Ending.returned (.int .i64 a) = .returned (.int .i64 b) := by rw [h]

/-- The variables that both literals capture. -/
structure CapG (w : World) (Lb Vb Cb g : Nat) (line : Int) (vert : Bool) (G : Gr) : Prop where
  l : Bk w Lb 2 #[.int .i64 line]
  v : Bk w Vb 4 #[.bool vert]
  c : Bk w Cb 93 #[.pointer (some ⟨g, 0, none⟩)]
  g : GB w g 97 G
theorem CapG.on {w w' : World} {Lb Vb Cb g : Nat} {line : Int} {vert : Bool} {G : Gr} (h : CapG w Lb Vb Cb g line vert G) (hb : Below w.heap.size w w') : CapG w' Lb Vb Cb g line vert G := ⟨h.l.on hb, h.v.on hb, h.c.on hb, h.g.on hb⟩

theorem Below.undrewN {B n : Nat} {w w' : World} (h : Below B (w.drewN n) w') : Below B w w' := ⟨h.os, h.tape, h.output, h.size, h.block⟩
theorem Below.undrew {B : Nat} {w w' : World} (h : Below B w.drew w') : Below B w w' := ⟨h.os, h.tape, h.output, h.size, h.block⟩
/-- What a cell holds, whatever it is. -/
def cellOr (w : World) (a : Addr) : Value := (w.cell? a).getD (.bool false)
theorem cellOr_some {w : World} {a : Addr} {u : Value} (h : w.cell? a = some u) : w.cell? a = some (cellOr w a) := by rw [cellOr, h]; rfl
theorem cellOr_eq {w : World} {a : Addr} {u : Value} (h : w.cell? a = some u) : cellOr w a = u := by rw [cellOr, h]; rfl
theorem Bk.ne {w : World} {b b' : Nat} {t t' : TypeId} {cs cs' : Array Value} (h : Bk w b t cs) (h' : Bk w b' t' cs') (hne : t ≠ t') : b ≠ b' := by
  rintro rfl
  unfold Bk at h h'
  rw [h] at h'
  simp at h'
  exact hne h'.2
/-- A block of another element type is not the row's. -/
theorem Bk.apart {w : World} {b : Nat} {t e : TypeId} {cs : Array Value} {B s n : Nat} {v : Value} {xs : List Value} (h : Bk w b t cs) (ho : w.ownsRow B e s v n xs) (hne : t ≠ e) : some b ≠ v.ownBlock := by
  intro he
  rcases ho.2 with ⟨rfl, _⟩ | ⟨g, cap, cur, rfl, _, hh, _⟩
  · simp [Value.ownBlock] at he
  · simp [Value.ownBlock] at he
    subst he
    unfold Bk at h
    rw [hh] at h
    simp at h
    exact hne h.2.symm

theorem CapG.alloc {w : World} {Lb Vb Cb g : Nat} {line : Int} {vert : Bool} {G : Gr} (h : CapG w Lb Vb Cb g line vert G) (o : Obj) : CapG (w.alloc o) Lb Vb Cb g line vert G := ⟨h.l.alloc o, h.v.alloc o, h.c.alloc o, h.g.alloc o⟩
/-- An append to a list of rectangles keeps them. -/
theorem CapG.grown {w w' : World} {Lb Vb Cb g : Nat} {line : Int} {vert : Bool} {G : Gr} {B : Nat} {v : Value} {rs : List Rc} (h : CapG w Lb Vb Cb g line vert G) (hR : RL w B v rs) (hg : w.grownBy w' v.ownBlock) : CapG w' Lb Vb Cb g line vert G :=
  ⟨h.l.grown hg (h.l.apart hR (by decide)), h.v.grown hg (h.v.apart hR (by decide)), h.c.grown hg (h.c.apart hR (by decide)), h.g.grown hg (let ⟨_, h1, _⟩ := h.g; h1.apart hR (by decide))⟩
/-- .. and so does a store of a list of rectangles into a variable. -/
theorem CapG.store {w : World} {Lb Vb Cb g Ob : Nat} {line : Int} {vert : Bool} {G : Gr} {cs : Array Value} (h : CapG w Lb Vb Cb g line vert G) (hO : Bk w Ob 38 cs) (i : Nat) (u : Value) : CapG (w.setCell ⟨Ob, i, none⟩ u) Lb Vb Cb g line vert G :=
  ⟨h.l.other (p := ⟨Ob, i, none⟩) (h.l.ne hO (by decide)) u, h.v.other (p := ⟨Ob, i, none⟩) (h.v.ne hO (by decide)) u, h.c.other (p := ⟨Ob, i, none⟩) (h.c.ne hO (by decide)) u, h.g.other (p := ⟨Ob, i, none⟩) (let ⟨_, h1, _⟩ := h.g; h1.ne hO (by decide)) u⟩

end Go.Proofs.YtgegbgkokkdmpaaGreat

namespace Go.Proofs.YtgegbgkokkdmpaaGreat
open Go.RowKit

theorem kind_eq {G : Gr} {vert : Bool} {a s t : Int} (h : lnG G vert a s = lnG G vert a t) : kindG G vert a s = kindG G vert a t := by unfold kindG; rw [h]
theorem kind_ne {G : Gr} {vert : Bool} {a s t : Int} (h : ¬ lnG G vert a s = lnG G vert a t) : ¬ kindG G vert a s = kindG G vert a t := by
  unfold kindG
  revert h
  cases lnG G vert a s <;> cases lnG G vert a t <;> simp
/-- No run is cut at i. -/
def FreshG (G : Gr) (vert : Bool) (a : Int) (i : Nat) : Prop := lnG G vert a ((i : Int) - 40) = true → lnG G vert a ((i : Int) - 41) = false
theorem fresh_zero (G : Gr) (vert : Bool) (a : Int) : FreshG G vert a 0 := fun _ => by
  rw [Bool.eq_false_iff]
  intro hc
  have := lnG_in hc
  omega
/-- All from i on below e are as i is. -/
def AlikeG (G : Gr) (vert : Bool) (a : Int) (i e : Nat) : Prop := ∀ j : Nat, i ≤ j → j < e → lnG G vert a ((j : Int) - 40) = lnG G vert a ((i : Int) - 40)
theorem alike_one (G : Gr) (vert : Bool) (a : Int) (i : Nat) : AlikeG G vert a i (i + 1) := fun j h1 h2 => by
  have : j = i := by omega
  rw [this]
theorem alike_step {G : Gr} {vert : Bool} {a : Int} {i e : Nat} (h : AlikeG G vert a i e) (he : lnG G vert a ((e : Int) - 40) = lnG G vert a ((i : Int) - 40)) : AlikeG G vert a i (e + 1) := fun j h1 h2 => by
  by_cases hj : j < e
  · exact h j h1 hj
  · have : j = e := by omega
    rw [this]; exact he
/-- The run ends at e. -/
theorem fresh_end {G : Gr} {vert : Bool} {a : Int} {i e : Nat} (h : AlikeG G vert a i e) (hi : i < e) (hne : ¬ (e < 80 ∧ lnG G vert a ((e : Int) - 40) = lnG G vert a ((i : Int) - 40))) : FreshG G vert a e := by
  intro ht
  have he := lnG_in ht
  have h1 := h (e - 1) (by omega) (by omega)
  have e1 : ((e - 1 : Nat) : Int) - 40 = (e : Int) - 41 := by omega
  rw [e1] at h1
  rw [h1]
  by_cases hc : lnG G vert a ((i : Int) - 40) = true
  · exact absurd ⟨by omega, ht.trans hc.symm⟩ hne
  · simpa using hc
theorem run_end {G : Gr} {vert : Bool} {a : Int} {i e : Nat} (hon : lnG G vert a ((i : Int) - 40) = true) (hne : ¬ (e < 80 ∧ lnG G vert a ((e : Int) - 40) = lnG G vert a ((i : Int) - 40))) : lnG G vert a ((e : Int) - 40) = false := by
  rw [Bool.eq_false_iff]
  intro ht
  have he := lnG_in ht
  exact hne ⟨by omega, ht.trans hon.symm⟩
theorem rest_set {G : Gr} {vert : Bool} {a : Int} {i e : Nat} {ps rest full : List Rc} (h : ps ++ (restL G vert a i ++ rest) = full) (hf : FreshG G vert a i) (hall : AlikeG G vert a i e) (hi : i < e) (he : e ≤ 80)
    (hon : lnG G vert a ((i : Int) - 40) = true) (hne : ¬ (e < 80 ∧ lnG G vert a ((e : Int) - 40) = lnG G vert a ((i : Int) - 40))) : (ps ++ [lineR vert a ((i : Int) - 40) ((e : Int) - 40)]) ++ (restL G vert a e ++ rest) = full := by
  rw [restL_set G vert a hi he (fun j h1 h2 => (hall j h1 h2).trans hon) (hf hon) (run_end hon hne)] at h
  rw [← h]
  simp
theorem rest_free {G : Gr} {vert : Bool} {a : Int} {i e : Nat} {ps rest full : List Rc} (h : ps ++ (restL G vert a i ++ rest) = full) (hall : AlikeG G vert a i e) (hi : i < e) (he : e ≤ 80)
    (hoff : lnG G vert a ((i : Int) - 40) = false) : ps ++ (restL G vert a e ++ rest) = full := by
  rw [restL_free G vert a hi he (fun j h1 h2 => (hall j h1 h2).trans hoff)] at h
  exact h
theorem rest_end {G : Gr} {vert : Bool} {a : Int} {i : Nat} {ps rest full : List Rc} (h : ps ++ (restL G vert a i ++ rest) = full) (hi : 80 ≤ i) : ps ++ rest = full := by
  rw [restL_end G vert a hi, List.nil_append] at h; exact h

end Go.Proofs.YtgegbgkokkdmpaaGreat

namespace Go.Proofs.YtgegbgkokkdmpaaGreat
open Go.RowKit

/-- The integer that a pointer leads to. -/
def lineOf (w : World) : Value → Int
  | .pointer (some a) => intOf ((w.cell? a).getD (.bool false))
  | _ => 0
theorem lineOf_bk {w : World} {b : Nat} {t : TypeId} {x : Int} (h : Bk w b t #[.int .i64 x]) : lineOf w (.pointer (some ⟨b, 0, none⟩)) = x := by
  have := h.cell 0
  simp only [List.getElem?_toArray, List.getElem?_cons_zero] at this
  simp [lineOf, this, intOf]

theorem Bk.new' (w : World) (n : Nat) (t : TypeId) (cs : Array Value) (h : w.heap.size = n) : Bk (w.alloc (.cells cs t)) n t cs := h ▸ Bk.new w t cs

/-- An empty list of the call's own. -/
theorem row_empty (w : World) (B n : Nat) (h : w.heap.size = n) (hB : B ≤ n) : RL (w.alloc (.cells #[] 60)) B (.slice (some ⟨n, 0, none⟩) 0 0) [] := by
  subst h
  exact own_less (World.ownsRow_lit w #[] 0 (Nat.le_refl _) (Nat.zero_le _) rfl) hB

end Go.Proofs.YtgegbgkokkdmpaaGreat

namespace Go.Proofs.YtgegbgkokkdmpaaGreat
open Go.RowKit

/-- 'append(a, b...)', a a list of the call's own. -/
theorem wpList_append_RR {w : World} {ops : Array Oper} {rest : List Oper} {o : Oper} {a : Act} {Q : Exit → Act → World → Prop} (hgd : o.guard = none) (s x : Operand)
    (ho : o.op = .call { callee := .builtin .append, args := #[s, x], argTypes := #[38, 38] })
    (B B' : Nat) (v u : Value) (rs qs : List Rc) (hs : a.eval s = v) (hown : RL w B v rs) (hx : a.eval x = u) (hu : RL w B' u qs)
    (hlen : rs.length + qs.length ≤ 1000000) (hB : B ≤ w.heap.size)
    (h : ∀ v' w', RL w' B v' (rs ++ qs) → Below B w w' → wpList Tryz.prog ops Q rest (a.put o.dst v') w') :
    wpList Tryz.prog ops Q (o :: rest) a w := by
  obtain ⟨i, hi, hz, hsz, hby⟩ := info_parts infoRect
  have hu0 := hu
  unfold RL at hu
  rcases hu.2 with ⟨hv, hn⟩ | ⟨g, cap, cur, hv, hg, hh, hnc, hcm, hcs, htake⟩
  · have hq : qs = [] := List.length_eq_zero_iff.1 hn
    subst hq
    refine wpList_append_own_none hgd s x 38 ho B 60 i 4 Tryz.underlying38 hi v rs.length (flatR rs) hs hown (hx.trans hv) ?_
    exact h v w (by rw [List.append_nil]; exact hown) (Below.refl _ _)
  · refine wpList_append_own _ hgd s x 38 ho B 60 i _ 4 32 Tryz.underlying38 hi hz hsz hby rfl (by decide) v rs.length (flatR rs) hs hown ⟨g, 0, none⟩ qs.length cap
      (flatR qs) (hx.trans hv) (flatR_length qs) ?_ ?_ (by simp only [maxLen]; omega) (by omega) hB ?_
    · intro j y hy
      rw [Addr.add_lit, Nat.zero_add, cell_of_row w g j cur _ (0, 0) hh]
      rw [← htake, List.getElem?_take] at hy
      split at hy
      · simpa using hy
      · cases hy
    · intro y hy
      simp only [flatR, List.mem_flatMap, Rc.vals] at hy
      obtain ⟨r, _, hy⟩ := hy
      simp at hy
      rcases hy with rfl | rfl | rfl | rfl <;> rfl
    · intro v' w' h1 h2 _
      refine h v' w' ?_ (below_own hown h2 hB)
      unfold RL
      rw [flatR_append, List.length_append]
      exact h1

end Go.Proofs.YtgegbgkokkdmpaaGreat
