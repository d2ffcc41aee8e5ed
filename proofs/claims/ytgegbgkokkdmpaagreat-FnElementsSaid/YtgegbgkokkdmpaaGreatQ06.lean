/- Contracts: the program's combine over an operation on two flags, told by a contract of the literal; Difference. No conditions. What memory holds: lists of values of one cell in rows of the call's own; lists of lists of rectangles; append on such lists, on lists of points, pairs and integers. No conditions. What memory holds, more: append with the word where the new row lies; a list that is read while another one grows. No conditions. Contracts: the complement of a set: the program's not, the reference's l18Outside. No conditions. Plain mathematics: the gaps of a set, and those between two sets, as both texts list them. No conditions. -/
import Derived.Test.YtgegbgkokkdmpaaGreatQ01
import Derived.Test.YtgegbgkokkdmpaaGreatQ04
import Derived.Deep.RegionHeld3
import Derived.Test.YtgegbgkokkdmpaaGreatQ02
import Derived.Test.YtgegbgkokkdmpaaGreatQ05
import Derived.Maps.AppendAt

namespace Go.Proofs.YtgegbgkokkdmpaaGreat
open Go.RowKit

/-- Two sets, cell by cell. -/
def interG (G H : Gr) : Gr := fun i => G i && H i
def unionG (G H : Gr) : Gr := fun i => G i || H i
theorem cellsG_append (a b : List Rc) : cellsG (a ++ b) = unionG (cellsG a) (cellsG b) := by
  funext i
  simp [cellsG, unionG, List.any_append]
/-- The first n cells are done. -/
def partG (F : Gr) (n : Nat) : Gr := fun i => decide (i < n) && F i
theorem partG_zero (F : Gr) : partG F 0 = emptyG := by funext i; simp [partG, emptyG]
theorem partG_step (F : Gr) (n : Nat) : updG (partG F n) n (F n) = partG F (n + 1) := by
  funext i
  unfold updG partG
  by_cases h : i = n
  · subst h; simp
  · rw [if_neg h]
    have : decide (i < n + 1) = decide (i < n) := by rw [decide_eq_decide]; omega
    rw [this]
theorem partG_all (F : Gr) : sameG (partG F 6400) F := fun i hi => by simp [partG, hi]









/-- The literal of Union. -/
theorem union_lit (a b : Bool) (w : World) : Calls Tryz.prog 23 #[.bool a, .bool b] w fun e w' => e = .returned (.bool ((fun a b => a || b) a b)) ∧ w = w' := by
  cases a <;> cases b
  all_goals
    go_enter Tryz.func23, Tryz.ntmps23
    go_wp2
    go_ret
    exact ⟨rfl, rfl⟩

set_option maxHeartbeats 1600000 in
set_option maxRecDepth 100000 in
/-- combine, Union. -/
theorem combine_union (v u : Value) (rs qs : List Rc) (w : World) (hv : RL w 0 v rs) (hu : RL w 0 u qs) (h1 : isReg rs = true) (h2 : isReg qs = true) :
    Calls Tryz.prog 22 #[v, u, .func (.func 23) #[] #[]] w fun e w' => ∃ z, e = .returned z ∧ RL w' w.heap.size z (canon (unionG (cellsG rs) (cellsG qs))) ∧ Below w.heap.size w w' := by
  go_enter Tryz.func22, Tryz.ntmps22
  go_wp2_with fail
  refine (isRegion_any v rs _ hv).mono ?_
  rintro e w1 ⟨rfl, hb1⟩
  rw [h1]
  go_wp2_with fail
  refine (isRegion_any u qs _ (hu.on hb1)).mono ?_
  rintro e w2 ⟨rfl, hb2⟩
  rw [h2]
  go_wp2_with fail
  refine (cellsOf_any v rs _ ((hv.on hb1).on hb2)).mono ?_
  rintro e w3 ⟨gx, rfl, hx, hX, hb3⟩
  go_wp2_with fail
  refine (cellsOf_any u qs _ (((hu.on hb1).on hb2).on hb3)).mono ?_
  rintro e w4 ⟨gy, rfl, hy, hY, hb4⟩
  have t2 := hb1.trans (hb2.mono hb1.size)
  have t3 := t2.trans (hb3.mono t2.size)
  have t4 := t3.trans (hb4.mono t3.size)
  have hX4 := (hX.on hb4).alloc (.cells Tryz.zeroCells97 97)
  have hY4 := hY.alloc (.cells Tryz.zeroCells97 97)
  have g0 := GB.zero w4 97
  have t5 := t4.alloc t4.size (.cells Tryz.zeroCells97 97)
  have hxl := (hX.on hb4).lt
  have hyl := hY.lt
  go_wp2
  go_loopw [26] (fun iv wr => ∃ a : Nat, a ≤ 80 ∧ iv = .int .i64 a ∧ GB wr w4.heap.size 97 (partG (unionG (cellsG rs) (cellsG qs)) (a * 80)) ∧ GB wr gx 97 (cellsG rs) ∧ GB wr gy 97 (cellsG qs) ∧ Below w.heap.size w wr) (fun iv _ => 80 - (intOf iv).toNat)
  case atStart => exact ⟨0, by omega, rfl, by rw [Nat.zero_mul, partG_zero]; exact g0, hX4, hY4, t5⟩
  case round =>
    obtain ⟨a, ha, rfl, hG, hX5, hY5, hb⟩ := hrel
    clear g0 hX4 hY4 t5 hX hY
    by_cases hlt : a < 80
    · have hd : decide ((a : Int) < 80) = true := decide_eq_true (by omega)
      go_wp2
      try rw [hd]
      go_loopw [29] (fun kv wi => ∃ b : Nat, b ≤ 80 ∧ kv = .int .i64 b ∧ GB wi w4.heap.size 97 (partG (unionG (cellsG rs) (cellsG qs)) (a * 80 + b)) ∧ GB wi gx 97 (cellsG rs) ∧ GB wi gy 97 (cellsG qs) ∧ Below w.heap.size w wi) (fun kv _ => 80 - (intOf kv).toNat)
      case atStart => exact ⟨0, by omega, rfl, hG, hX5, hY5, hb⟩
      case round =>
        obtain ⟨b, hb8, rfl, hG6, hX6, hY6, hb6⟩ := hrel
        clear hG hX5 hY5 hb
        by_cases hltb : b < 80
        · have ha0 : (0 : Int) ≤ (a : Int) ∧ (a : Int) < 80 ∧ (0 : Int) ≤ (b : Int) ∧ (b : Int) < 80 := by omega
          have cx := hX6.cell (i := a * 80 + b) (by omega)
          have cy := hY6.cell (i := a * 80 + b) (by omega)
          have hz := hG6.frozen (a * 80 + b)
          have co := hG6.cell (i := a * 80 + b) (by omega)
          have hst := (hG6.store (j := a * 80 + b) (by omega) (unionG (cellsG rs) (cellsG qs) (a * 80 + b)))
          rw [partG_step] at hst
          have sx := fun u => (hX6.other (p := ⟨w4.heap.size, a * 80 + b, none⟩) (show gx ≠ w4.heap.size by omega) u).cell (i := a * 80 + b) (by omega)
          have sy := fun u => (hY6.other (p := ⟨w4.heap.size, a * 80 + b, none⟩) (show gy ≠ w4.heap.size by omega) u).cell (i := a * 80 + b) (by omega)
          go_wp2
          go_region_held3 (fun w' => w'.cell? ⟨gx, a * 80 + b, none⟩ = some (.bool (cellsG rs (a * 80 + b))) ∧ w'.cell? ⟨gy, a * 80 + b, none⟩ = some (.bool (cellsG qs (a * 80 + b)))) (first | exact ⟨cx, cy⟩ | exact ⟨sx _, sy _⟩)
            (first | (go_at_call 23; refine (union_lit _ _ _).mono ?_; rintro e w7 ⟨rfl, rfl⟩))
          all_goals
            go_wp2
            refine ⟨⟨b + 1, by omega, by go_num, ?_, hX6.other (p := ⟨w4.heap.size, _, none⟩) (show gx ≠ w4.heap.size by omega) _, hY6.other (p := ⟨w4.heap.size, _, none⟩) (show gy ≠ w4.heap.size by omega) _, (hb6.setCell (p := ⟨w4.heap.size, _, none⟩) t4.size _).drew⟩, by simp [intOf]; omega⟩
            exact hst
        · go_wp2
          have hbe : b = 80 := by omega
          refine ⟨⟨a + 1, by omega, by go_num, ?_, hX6, hY6, hb6⟩, by simp [intOf]; omega⟩
          rw [hbe] at hG6
          rw [Nat.succ_mul]
          exact hG6
    · have hae : a = 80 := by omega
      rw [hae] at hG
      go_wp2_with fail
      refine (region_any _ _ _ hG).mono ?_
      rintro e w9 ⟨z, rfl, hR, hb9⟩
      go_wp2
      go_ret
      refine ⟨_, rfl, ?_, hb.trans (hb9.mono hb.size)⟩
      rw [canon_congr (partG_all _)] at hR
      exact hR.less hb.size


set_option maxHeartbeats 400000 in
/-- Union of two regions. -/
theorem union_any (v u : Value) (rs qs : List Rc) (w : World) (hv : RL w 0 v rs) (hu : RL w 0 u qs) (h1 : isReg rs = true) (h2 : isReg qs = true) :
    Calls Tryz.prog 9 #[v, u] w fun e w' => ∃ z, e = .returned z ∧ RL w' w.heap.size z (canon (unionG (cellsG rs) (cellsG qs))) ∧ Below w.heap.size w w' := by
  go_enter Tryz.func9, Tryz.ntmps9
  go_wp2_with fail
  refine (combine_union v u rs qs _ hv hu h1 h2).mono ?_
  rintro e w1 ⟨z, rfl, hR, hb1⟩
  go_wp2
  go_ret
  exact ⟨_, rfl, hR, hb1⟩

end Go.Proofs.YtgegbgkokkdmpaaGreat

namespace Go.Proofs.YtgegbgkokkdmpaaGreat
open Go.RowKit

/-- Two rows of different element types lie apart. -/
theorem own_apart {w : World} {B B' s s' n n' : Nat} {e e' : TypeId} {v v' : Value} {xs xs' : List Value} (h : w.ownsRow B e s v n xs) (h' : w.ownsRow B' e' s' v' n' xs') (hne : e ≠ e') : v.ownBlock = none ∨ v.ownBlock ≠ v'.ownBlock := by
  rcases h.2 with ⟨rfl, _⟩ | ⟨g, cap, cur, rfl, _, hh, _⟩
  · exact .inl rfl
  · right
    intro he
    rcases h'.2 with ⟨rfl, _⟩ | ⟨g', cap', cur', rfl, _, hh', _⟩
    · simp [Value.ownBlock] at he
    · simp [Value.ownBlock] at he
      subst he
      rw [hh] at hh'
      simp at hh'
      exact hne hh'.2
theorem Bk.apart' {w : World} {b : Nat} {t e : TypeId} {cs : Array Value} {B s n : Nat} {v : Value} {xs : List Value} (h : Bk w b t cs) (ho : w.ownsRow B e s v n xs) (hne : t ≠ e) : some b ≠ v.ownBlock := by
  intro he
  rcases ho.2 with ⟨rfl, _⟩ | ⟨g, cap, cur, rfl, _, hh, _⟩
  · simp [Value.ownBlock] at he
  · simp [Value.ownBlock] at he
    subst he
    unfold Bk at h
    rw [hh] at h
    simp at h
    exact hne h.2.symm

/-- 'out = append(out, x)' for one element of whatever cells, on a list of the call's own. -/
theorem wpList_append_G {w : World} {ops : Array Oper} {rest : List Oper} {o : Oper} {a : Act} {Q : Exit → Act → World → Prop} (hgd : o.guard = none) (s x : Operand) (e st : TypeId) (size bytes : Nat) (z : Value)
    (hinfo : (Tryz.prog.info? e).map (fun i => (i.zero, i.size, i.bytes)) = some (some z, size, bytes)) (hst : Tryz.prog.underlying st = some (.slice e)) (hzs : z.cells.size = size) (hsz : 0 < size) (hby : bytes ≤ 100)
    (ho : o.op = .call { callee := .builtin .append, args := #[s, x], argTypes := #[st, st] })
    (B : Nat) (v : Value) (n : Nat) (xs : List Value) (hs : a.eval s = v) (hown : w.ownsRow B e size v n xs) (cs : List Value) (hcs : cs.length = size) (hone : ∀ u ∈ cs, u.oneCell' = true)
    (hx : a.eval x = .slice (some ⟨w.heap.size, 0, none⟩) 1 1) (hlen : n ≤ 1000000) (hB : B ≤ w.heap.size)
    (h : ∀ v' w', w'.ownsRow B e size v' (n + 1) (xs ++ cs) → w.grownBy w' v.ownBlock → Below B w w' → wpList Tryz.prog ops Q rest (a.put o.dst v') w') :
    wpList Tryz.prog ops Q (o :: rest) a (w.alloc (.cells cs.toArray e)) := by
  obtain ⟨i, hi, hz, hsz', hby'⟩ := info_parts hinfo
  refine wpList_append_own _ hgd s x st ho B e i z size bytes hst hi hz hsz' hby' hzs hsz v n xs hs (World.ownsRow.alloc hown _) ⟨w.heap.size, 0, none⟩ 1 1 cs hx (by rw [hcs, Nat.one_mul]) ?_ hone (by simp only [maxLen]; omega) ?_ (by simp; omega) ?_
  · intro j u hu
    rw [Addr.add_lit, World.cell?_alloc_new]
    simpa using hu
  · have : (n + 1) * bytes ≤ 1000001 * 100 := Nat.mul_le_mul (by omega) hby
    omega
  · intro v' w' h1 h2 _
    have h3 := grown_of_alloc h2
    exact h v' w' h1 h3 (below_own hown h3 hB)

/-- The slice value v holds the values vs, one cell each, of element type t. -/
def VL (w : World) (B : Nat) (t : TypeId) (v : Value) (vs : List Value) : Prop := w.ownsRow B t 1 v vs.length vs
section
variable {w w' : World} {B B' : Nat} {t : TypeId} {v : Value} {vs : List Value}
theorem VL.on (h : VL w B t v vs) (hb : Below w.heap.size w w') : VL w' B t v vs := own_on h hb
theorem VL.less (h : VL w B t v vs) (hB : B' ≤ B) : VL w B' t v vs := own_less h hB
theorem VL.nil (w : World) (B : Nat) (t : TypeId) : VL w B t (.slice none 0 0) [] := World.ownsRow_nil w B _ _
theorem VL.alloc (h : VL w B t v vs) (o : Obj) : VL (w.alloc o) B t v vs := World.ownsRow.alloc h o
theorem VL.form (h : VL w B t v vs) : ∃ A cap, v = .slice A vs.length cap ∧ vs.length ≤ cap ∧ cap ≤ maxLen ∧
    (∀ (k : Nat) (u : Value), vs[k]? = some u → ∃ g, A = some ⟨g, 0, none⟩ ∧ B ≤ g ∧ g < w.heap.size ∧ w.cell? ⟨g, k, none⟩ = some u ∧ w.frozen? ⟨g, k, none⟩ = false) := by
  obtain ⟨A, cap, hv, h1, h2, h3⟩ := own_form h
  refine ⟨A, cap, hv, h1, h2, fun k u hk => ?_⟩
  have hlt : k < vs.length := (List.getElem?_eq_some_iff.1 hk).1
  obtain ⟨g, hA, hg, hgw, hc, hf⟩ := h3 (by omega)
  exact ⟨g, hA, hg, hgw, hc k u hk, hf k⟩
/-- The element k, in memory. -/
theorem VL.elem {A : Option Addr} {n c : Nat} (h : VL w B t (.slice A n c) vs) {k : Nat} (hk : k < vs.length) : ∃ g u, A = some ⟨g, 0, none⟩ ∧ vs[k]? = some u ∧ g < w.heap.size ∧ w.cell? ⟨g, k, none⟩ = some u := by
  obtain ⟨A', c', e, _, _, hf⟩ := h.form
  have hr : vs[k]? = some vs[k] := List.getElem?_eq_getElem hk
  obtain ⟨g, hA, _, hg, h0, _⟩ := hf k _ hr
  simp only [Value.slice.injEq] at e
  exact ⟨g, _, e.1.trans hA, hr, hg, h0⟩
end

/-- The slice value v holds the lists rss of rectangles. -/
def RLL (w : World) (B : Nat) (v : Value) (rss : List (List Rc)) : Prop := ∃ vs, VL w B 38 v vs ∧ vs.length = rss.length ∧ ∀ (k : Nat) (u : Value) (rs : List Rc), vs[k]? = some u → rss[k]? = some rs → RL w B u rs
section
variable {w w' : World} {B B' : Nat} {v : Value} {rss : List (List Rc)}
theorem RLL.on (h : RLL w B v rss) (hb : Below w.heap.size w w') : RLL w' B v rss := let ⟨vs, h1, h2, h3⟩ := h; ⟨vs, h1.on hb, h2, fun k u rs hu hr => (h3 k u rs hu hr).on hb⟩
theorem RLL.less (h : RLL w B v rss) (hB : B' ≤ B) : RLL w B' v rss := let ⟨vs, h1, h2, h3⟩ := h; ⟨vs, h1.less hB, h2, fun k u rs hu hr => (h3 k u rs hu hr).less hB⟩
theorem RLL.alloc (h : RLL w B v rss) (o : Obj) : RLL (w.alloc o) B v rss := let ⟨vs, h1, h2, h3⟩ := h; ⟨vs, h1.alloc o, h2, fun k u rs hu hr => World.ownsRow.alloc (h3 k u rs hu hr) o⟩
theorem RLL.nil (w : World) (B : Nat) : RLL w B (.slice none 0 0) [] := ⟨[], VL.nil w B _, rfl, fun k u rs hu => by simp at hu⟩
theorem RLL.form (h : RLL w B v rss) : ∃ A cap, v = .slice A rss.length cap ∧ rss.length ≤ cap ∧ cap ≤ maxLen := by
  obtain ⟨vs, h1, h2, h3⟩ := h
  obtain ⟨A, cap, hv, a1, a2, _⟩ := h1.form
  rw [h2] at hv a1
  exact ⟨A, cap, hv, a1, a2⟩
/-- The list k, in memory. -/
theorem RLL.elem {A : Option Addr} {n c : Nat} (h : RLL w B (.slice A n c) rss) {k : Nat} (hk : k < rss.length) : ∃ g u rs, A = some ⟨g, 0, none⟩ ∧ rss[k]? = some rs ∧ g < w.heap.size ∧ w.cell? ⟨g, k, none⟩ = some u ∧ RL w B u rs := by
  obtain ⟨vs, h1, h2, h3⟩ := h
  obtain ⟨g, u, hA, hu, hg, hc⟩ := h1.elem (k := k) (by omega)
  have hr : rss[k]? = some rss[k] := List.getElem?_eq_getElem hk
  exact ⟨g, u, _, hA, hr, hg, hc, h3 k u _ hu hr⟩
end

/-- The slice value v holds sets of flags. -/
def GSL (w : World) (B : Nat) (v : Value) (Gs : List Gr) : Prop := ∃ vs, VL w B 83 v vs ∧ vs.length = Gs.length ∧ ∀ (k : Nat) (u : Value) (G : Gr), vs[k]? = some u → Gs[k]? = some G → GS w B u G

theorem infoRects : (Tryz.prog.info? 38).map (fun i => (i.zero, i.size, i.bytes)) = some (some (.slice none 0 0), 1, 24) := by kernel_rfl
/-- 'out = append(out, part)' on a list of lists of rectangles of the call's own. -/
theorem wpList_append_RLL {w : World} {ops : Array Oper} {rest : List Oper} {o : Oper} {a : Act} {Q : Exit → Act → World → Prop} (hgd : o.guard = none) (s x : Operand)
    (ho : o.op = .call { callee := .builtin .append, args := #[s, x], argTypes := #[31, 31] })
    (B : Nat) (v : Value) (rss : List (List Rc)) (hs : a.eval s = v) (hown : RLL w B v rss) (u : Value) (rs : List Rc) (hu : RL w B u rs) (hx : a.eval x = .slice (some ⟨w.heap.size, 0, none⟩) 1 1) (hlen : rss.length ≤ 1000000) (hB : B ≤ w.heap.size)
    (h : ∀ v' w', RLL w' B v' (rss ++ [rs]) → w.grownBy w' v.ownBlock → Below B w w' → wpList Tryz.prog ops Q rest (a.put o.dst v') w') :
    wpList Tryz.prog ops Q (o :: rest) a (w.alloc (.cells #[u] 38)) := by
  obtain ⟨vs, h1, h2, h3⟩ := hown
  have hone : u.oneCell' = true := by obtain ⟨A, c, rfl, _⟩ := hu.form; rfl
  refine wpList_append_G hgd s x 38 31 1 24 _ infoRects Tryz.underlying31 rfl (by decide) (by decide) ho B v vs.length vs hs h1 [u] rfl (by simpa using hone) hx (by omega) hB ?_
  intro v' w' k1 k2 k3
  refine h v' w' ⟨vs ++ [u], by unfold VL; rw [List.length_append]; exact k1, by simp [h2], fun k y qs hy hq => ?_⟩ k2 k3
  by_cases hk : k < vs.length
  · rw [List.getElem?_append_left hk] at hy
    rw [List.getElem?_append_left (by omega)] at hq
    have hr := h3 k y qs hy hq
    exact World.ownsRow.kept hr k2 (own_apart hr h1 (by decide))
  · have hke : k = vs.length := by have := (List.getElem?_eq_some_iff.1 hy).1; simp at this; omega
    subst hke
    rw [List.getElem?_append_right (Nat.le_refl _), Nat.sub_self] at hy
    rw [List.getElem?_append_right (by omega), h2, Nat.sub_self] at hq
    simp at hy hq
    subst hy hq
    exact World.ownsRow.kept hu k2 (own_apart hu h1 (by decide))

section
variable {w w' : World} {B B' : Nat} {v : Value} {Gs : List Gr}
theorem GSL.on (h : GSL w B v Gs) (hb : Below w.heap.size w w') : GSL w' B v Gs := let ⟨vs, h1, h2, h3⟩ := h; ⟨vs, h1.on hb, h2, fun k u G hu hG => (h3 k u G hu hG).on hb⟩
theorem GSL.less (h : GSL w B v Gs) (hB : B' ≤ B) : GSL w B' v Gs := let ⟨vs, h1, h2, h3⟩ := h; ⟨vs, h1.less hB, h2, fun k u G hu hG => (h3 k u G hu hG).less hB⟩
theorem GSL.nil (w : World) (B : Nat) : GSL w B (.slice none 0 0) [] := ⟨[], VL.nil w B _, rfl, fun k u rs hu => by simp at hu⟩
theorem GSL.form (h : GSL w B v Gs) : ∃ A cap, v = .slice A Gs.length cap ∧ Gs.length ≤ cap ∧ cap ≤ maxLen := by
  obtain ⟨vs, h1, h2, h3⟩ := h
  obtain ⟨A, cap, hv, a1, a2, _⟩ := h1.form
  rw [h2] at hv a1
  exact ⟨A, cap, hv, a1, a2⟩
theorem GSL.elem {A : Option Addr} {n c : Nat} (h : GSL w B (.slice A n c) Gs) {k : Nat} (hk : k < Gs.length) : ∃ g u G, A = some ⟨g, 0, none⟩ ∧ Gs[k]? = some G ∧ g < w.heap.size ∧ w.cell? ⟨g, k, none⟩ = some u ∧ GS w B u G := by
  obtain ⟨vs, h1, h2, h3⟩ := h
  obtain ⟨g, u, hA, hu, hg, hc⟩ := h1.elem (k := k) (by omega)
  have hr : Gs[k]? = some Gs[k] := List.getElem?_eq_getElem hk
  exact ⟨g, u, _, hA, hr, hg, hc, h3 k u _ hu hr⟩
theorem GS.kept {w w' : World} {B : Nat} {u : Value} {G : Gr} (h : GS w B u G) {B2 s n : Nat} {e : TypeId} {y : Value} {xs : List Value} (ho : w.ownsRow B2 e s y n xs) (hne : 4 ≠ e) (hg : w.grownBy w' y.ownBlock) : GS w' B u G := by
  obtain ⟨g, c, rfl, hB, cs, hb, hr⟩ := h
  exact ⟨g, c, rfl, hB, cs, hb.grown hg (hb.apart' ho hne), hr⟩
end

end Go.Proofs.YtgegbgkokkdmpaaGreat

namespace Go.Proofs.YtgegbgkokkdmpaaGreat
open Go.RowKit

/-- A slice value lies outside the blocks from N to M. -/
def OutB (v : Value) (N M : Nat) : Prop := ∀ g, v.ownBlock = some g → g < N ∨ M ≤ g
/-- A list of rectangles that lies in blocks from N to M. -/
structure Src (w : World) (N M : Nat) (u : Value) (rs : List Rc) : Prop where
  row : RL w N u rs
  hi : ∀ g, u.ownBlock = some g → g < M
theorem Src.of {w : World} {N : Nat} {u : Value} {rs : List Rc} (h : RL w N u rs) : Src w N w.heap.size u rs := ⟨h, fun g hg => (own_lt h g hg).2⟩
theorem Src.on {w w' : World} {N M : Nat} {u : Value} {rs : List Rc} (h : Src w N M u rs) (hb : Below w.heap.size w w') : Src w' N M u rs := ⟨h.row.on hb, h.hi⟩
theorem Src.alloc {w : World} {N M : Nat} {u : Value} {rs : List Rc} (h : Src w N M u rs) (o : Obj) : Src (w.alloc o) N M u rs := ⟨World.ownsRow.alloc h.row o, h.hi⟩
theorem Src.kept {w w' : World} {N M : Nat} {u v : Value} {rs : List Rc} (h : Src w N M u rs) (hv : OutB v N M) (hg : w.grownBy w' v.ownBlock) : Src w' N M u rs := by
  refine ⟨World.ownsRow.kept h.row hg ?_, h.hi⟩
  cases hu : u.ownBlock with
  | none => exact .inl rfl
  | some g =>
    right
    intro he
    have h1 := (own_lt h.row g hu).1
    have h2 := h.hi g hu
    rcases hv g he.symm with h3 | h3 <;> omega

/-- 'out = append(out, r)' on a list of rectangles of the call's own; the new row is the old one, or new. -/
theorem wpList_append_R_at {w : World} {ops : Array Oper} {rest : List Oper} {o : Oper} {a : Act} {Q : Exit → Act → World → Prop} (hgd : o.guard = none) (s x : Operand)
    (ho : o.op = .call { callee := .builtin .append, args := #[s, x], argTypes := #[38, 38] })
    (B : Nat) (v : Value) (rs : List Rc) (hs : a.eval s = v) (hown : RL w B v rs) (x0 y0 x1 y1 : Int) (hx : a.eval x = .slice (some ⟨w.heap.size, 0, none⟩) 1 1)
    (hlen : rs.length ≤ 1000000) (hB : B ≤ w.heap.size)
    (h : ∀ v' w', RL w' B v' (rs ++ [⟨x0, y0, x1, y1⟩]) → w.grownBy w' v.ownBlock → Below B w w' → (v'.ownBlock = v.ownBlock ∨ ∃ g, v'.ownBlock = some g ∧ w.heap.size ≤ g) → wpList Tryz.prog ops Q rest (a.put o.dst v') w') :
    wpList Tryz.prog ops Q (o :: rest) a (w.alloc (.cells #[.int .i64 x0, .int .i64 y0, .int .i64 x1, .int .i64 y1] 60)) := by
  obtain ⟨i, hi, hz, hsz, hby⟩ := info_parts infoRect
  refine wpList_append_own_at _ hgd s x 38 ho B 60 i _ 4 32 Tryz.underlying38 hi hz hsz hby rfl (by decide) v rs.length (flatR rs) hs (World.ownsRow.alloc hown _) ⟨w.heap.size, 0, none⟩ 1 1
    [.int .i64 x0, .int .i64 y0, .int .i64 x1, .int .i64 y1] hx rfl ?_ ?_ (by simp only [maxLen]; omega) (by omega) (by simp; omega) ?_
  · intro j u hu
    rw [Addr.add_lit, World.cell?_alloc_new]
    simpa using hu
  · intro u hu
    simp at hu
    rcases hu with rfl | rfl | rfl | rfl <;> rfl
  · intro v' w' h1 h2 _ hat
    have h3 := grown_of_alloc h2
    refine h v' w' ?_ h3 (below_own hown h3 hB) ?_
    · unfold RL
      rw [flatR_append, flatR_one, List.length_append]
      exact h1
    · rcases hat with hat | hat
      · exact .inl hat
      · exact .inr ⟨_, hat, by simp⟩
theorem OutB.next {v v' : Value} {N M s : Nat} (h : OutB v N M) (hM : M ≤ s) (hat : v'.ownBlock = v.ownBlock ∨ ∃ g, v'.ownBlock = some g ∧ s ≤ g) : OutB v' N M := by
  intro g hg
  rcases hat with e | ⟨g', e, hs⟩
  · exact h g (e ▸ hg)
  · rw [hg] at e
    simp at e
    omega
theorem Src.elem {w : World} {N M n c : Nat} {A : Option Addr} {rs : List Rc} (h : Src w N M (.slice A n c) rs) {k : Nat} (hk : k < rs.length) : ∃ g x0 y0 x1 y1, A = some ⟨g, 0, none⟩ ∧ rs[k]? = some ⟨x0, y0, x1, y1⟩ ∧ g < w.heap.size ∧
    w.cell? ⟨g, k * 4, none⟩ = some (.int .i64 x0) ∧ w.cell? ⟨g, k * 4 + 1, none⟩ = some (.int .i64 y0) ∧ w.cell? ⟨g, k * 4 + 2, none⟩ = some (.int .i64 x1) ∧ w.cell? ⟨g, k * 4 + 3, none⟩ = some (.int .i64 y1) := h.row.elem hk

theorem Src.at4 {w : World} {N M g n c : Nat} {rs : List Rc} (h : Src w N M (.slice (some ⟨g, 0, none⟩) n c) rs) {k : Nat} {x0 y0 x1 y1 : Int} (hr : rs[k]? = some ⟨x0, y0, x1, y1⟩) :
    w.cell? ⟨g, k * 4, none⟩ = some (.int .i64 x0) ∧ w.cell? ⟨g, k * 4 + 1, none⟩ = some (.int .i64 y0) ∧ w.cell? ⟨g, k * 4 + 2, none⟩ = some (.int .i64 x1) ∧ w.cell? ⟨g, k * 4 + 3, none⟩ = some (.int .i64 y1) := by
  obtain ⟨A', c', e, _, _, hf⟩ := h.row.form
  obtain ⟨g', hA, _, _, h0, h1, h2, h3⟩ := hf k _ hr
  simp only [Value.slice.injEq] at e
  have e1 := e.1.trans hA
  simp only [Option.some.injEq, Addr.mk.injEq] at e1
  rw [e1.1]
  exact ⟨h0, h1, h2, h3⟩

end Go.Proofs.YtgegbgkokkdmpaaGreat

namespace Go.Proofs.YtgegbgkokkdmpaaGreat
open Go.RowKit

/-- The cells that a set does not have. -/
def notG (G : Gr) : Gr := fun i => !G i

end Go.Proofs.YtgegbgkokkdmpaaGreat

namespace Go.Proofs.YtgegbgkokkdmpaaGreat

/-- The ends of a run: the cells before and behind it belong to A and B, in this order or the other. -/
def endsG (A B : Gr) (vert : Bool) (r : Rc) : Bool :=
  if vert = true then (hasG A r.x0 (r.y0 - 1) && hasG B r.x0 r.y1) || (hasG B r.x0 (r.y0 - 1) && hasG A r.x0 r.y1)
  else (hasG A (r.x0 - 1) r.y0 && hasG B r.x1 r.y0) || (hasG B (r.x0 - 1) r.y0 && hasG A r.x1 r.y0)
/-- A run does not reach the border. -/
def innerR (vert : Bool) (r : Rc) : Bool := if vert = true then decide (-40 < r.y0 ∧ r.y1 < 40) else decide (-40 < r.x0 ∧ r.x1 < 40)

theorem goUp_end {p : Int → Bool} (hp : ∀ t, p t = true → t ≤ 39) : ∀ (n : Nat) (x : Int), (40 : Int) - x < (n : Int) → p (goUp p n x) = false := by
  intro n
  induction n with
  | zero =>
    intro x h
    rw [Bool.eq_false_iff]
    intro hc
    have := hp _ hc
    rw [goUp] at this
    omega
  | succ n ih =>
    intro x h
    rw [goUp]
    split
    · exact ih (x + 1) (by omega)
    · rename_i hc; simpa using hc
/-- What is known of a run of a list. -/
theorem mem_runs {G : Gr} {vert : Bool} {r : Rc} (h : r ∈ runsG G vert) : ∃ a f t : Int, r = lineR vert a f t ∧ -40 ≤ a ∧ a ≤ 39 ∧ -40 ≤ f ∧ f < t ∧ t ≤ 40 ∧ lnG G vert a (f - 1) = false ∧ lnG G vert a t = false := by
  rw [runsG, restA, List.mem_flatMap] at h
  obtain ⟨i, hi, h⟩ := h
  rw [List.mem_range'_1] at hi
  rw [restL, List.mem_map] at h
  obtain ⟨j, hj, rfl⟩ := h
  rw [List.mem_filter, List.mem_range'_1] at hj
  have hp : ∀ t, lnG G vert ((i : Int) - 40) t = true → t ≤ 39 := fun t ht => (lnG_in ht).2
  have h1 := goUp_bounds hp ((41 - ((j : Int) - 40 + 1)).toNat) ((j : Int) - 40 + 1) (by omega)
  have h2 := goUp_end hp ((41 - ((j : Int) - 40 + 1)).toNat) ((j : Int) - 40 + 1) (by omega)
  have hs : lnG G vert ((i : Int) - 40) ((j : Int) - 40 - 1) = false := by
    have := hj.2
    unfold startG at this
    revert this
    cases lnG G vert ((i : Int) - 40) ((j : Int) - 40) <;> cases lnG G vert ((i : Int) - 40) ((j : Int) - 40 - 1) <;> simp
  exact ⟨(i : Int) - 40, (j : Int) - 40, stopG G vert ((i : Int) - 40) ((j : Int) - 40), rfl, by omega, by omega, by omega, by unfold stopG highOf; omega, by unfold stopG highOf; omega, hs, h2⟩
theorem hasG_not {G : Gr} {x y : Int} (hc : onC x y = true) : hasG (notG G) x y = !hasG G x y := by rw [hasG_on hc, hasG_on hc]; rfl
theorem lnG_not {G : Gr} {vert : Bool} {a t : Int} (ha : -40 ≤ a ∧ a ≤ 39) (h : lnG (notG G) vert a t = false) : lnG G vert a t = decide (-40 ≤ t ∧ t ≤ 39) := by
  by_cases ht : -40 ≤ t ∧ t ≤ 39
  · rw [decide_eq_true ht]
    cases vert
    · rw [lnG_h] at h ⊢
      rw [hasG_not ((onC_iff _ _).2 (by omega))] at h
      simpa using h
    · rw [lnG_v] at h ⊢
      rw [hasG_not ((onC_iff _ _).2 (by omega))] at h
      simpa using h
  · rw [decide_eq_false ht, Bool.eq_false_iff]
    intro hc
    exact ht (lnG_in hc)
theorem gap_ends {G : Gr} {vert : Bool} {r : Rc} (h : r ∈ runsG (notG G) vert) : endsG G G vert r = innerR vert r := by
  obtain ⟨a, f, t, rfl, ha1, ha2, hf, hft, ht, h1, h2⟩ := mem_runs h
  have e1 := lnG_not ⟨ha1, ha2⟩ h1
  have e2 := lnG_not ⟨ha1, ha2⟩ h2
  unfold endsG innerR lineR
  cases vert
  · simp only [Bool.false_eq_true, if_false]
    rw [lnG_h] at e1 e2
    rw [e1, e2, Bool.or_self, ← Bool.decide_and, decide_eq_decide]
    omega
  · simp only [if_true]
    rw [lnG_v] at e1 e2
    rw [e1, e2, Bool.or_self, ← Bool.decide_and, decide_eq_decide]
    omega
theorem ends_inner {A B : Gr} {vert : Bool} {r : Rc} (h : endsG A B vert r = true) : innerR vert r = true := by
  unfold endsG at h
  unfold innerR
  cases vert
  · simp only [Bool.false_eq_true, if_false, Bool.or_eq_true, Bool.and_eq_true] at h ⊢
    rw [decide_eq_true_iff]
    rcases h with ⟨h1, h2⟩ | ⟨h1, h2⟩
    · have := hasG_in h1; have := hasG_in h2; omega
    · have := hasG_in h1; have := hasG_in h2; omega
  · simp only [if_true, Bool.or_eq_true, Bool.and_eq_true] at h ⊢
    rw [decide_eq_true_iff]
    rcases h with ⟨h1, h2⟩ | ⟨h1, h2⟩
    · have := hasG_in h1; have := hasG_in h2; omega
    · have := hasG_in h1; have := hasG_in h2; omega

/-- The gaps of a set. -/
def gapsG (G : Gr) (vert : Bool) : List Rc := (runsG (notG G) vert).filter (innerR vert)
/-- The gaps between two sets. -/
def btwG (A B : Gr) (vert : Bool) : List Rc := (runsG (notG (unionG A B)) vert).filter (endsG A B vert)
theorem union_self (G : Gr) : unionG G G = G := by funext i; unfold unionG; rw [Bool.or_self]
theorem btw_self (G : Gr) (vert : Bool) : btwG G G vert = gapsG G vert := by
  unfold btwG gapsG
  rw [union_self]
  exact List.filter_congr fun r hr => gap_ends hr
theorem btw_gaps (A B : Gr) (vert : Bool) : (gapsG (unionG A B) vert).filter (endsG A B vert) = btwG A B vert := by
  unfold btwG gapsG
  rw [List.filter_filter]
  refine List.filter_congr fun r _ => ?_
  cases h : endsG A B vert r with
  | false => rfl
  | true => rw [ends_inner h]; rfl
def allBtw (A B : Gr) : List Rc := btwG A B false ++ btwG A B true
def allGaps (G : Gr) : List Rc := gapsG G false ++ gapsG G true
theorem allBtw_self (G : Gr) : allBtw G G = allGaps G := by unfold allBtw allGaps; rw [btw_self, btw_self]
theorem gapsG_length (G : Gr) (vert : Bool) : (gapsG G vert).length ≤ 6400 := Nat.le_trans (List.length_filter_le _ _) (runsG_length _ _)
theorem btwG_length (A B : Gr) (vert : Bool) : (btwG A B vert).length ≤ 6400 := Nat.le_trans (List.length_filter_le _ _) (runsG_length _ _)
theorem allGaps_length (G : Gr) : (allGaps G).length ≤ 12800 := by
  have h1 := gapsG_length G false
  have h2 := gapsG_length G true
  rw [allGaps, List.length_append]
  omega
theorem allBtw_length (A B : Gr) : (allBtw A B).length ≤ 12800 := by
  have h1 := btwG_length A B false
  have h2 := btwG_length A B true
  rw [allBtw, List.length_append]
  omega
theorem okAll_filter {rs : List Rc} (h : okAll rs = true) (p : Rc → Bool) : okAll (rs.filter p) = true := by
  rw [okAll, List.all_eq_true] at h ⊢
  exact fun r hr => h r (List.mem_filter.1 hr).1
theorem okAll_append {a b : List Rc} (h1 : okAll a = true) (h2 : okAll b = true) : okAll (a ++ b) = true := by
  rw [okAll] at h1 h2 ⊢
  rw [List.all_append, h1, h2]; rfl
theorem gapsG_ok (G : Gr) (vert : Bool) : okAll (gapsG G vert) = true := okAll_filter (runsG_ok _ _) _
theorem btwG_ok (A B : Gr) (vert : Bool) : okAll (btwG A B vert) = true := okAll_filter (runsG_ok _ _) _
theorem allGaps_ok (G : Gr) : okAll (allGaps G) = true := okAll_append (gapsG_ok G false) (gapsG_ok G true)
theorem allBtw_ok (A B : Gr) : okAll (allBtw A B) = true := okAll_append (btwG_ok A B false) (btwG_ok A B true)

/-- A list, filtered, one element more. -/
theorem filter_yes {α : Type} {l : List α} {p : α → Bool} {k : Nat} {a : α} (h : l[k]? = some a) (hp : p a = true) : (l.take (k + 1)).filter p = (l.take k).filter p ++ [a] := by
  rw [List.take_add_one, h, Option.toList, List.filter_append, List.filter_cons, if_pos hp, List.filter_nil]
theorem filter_no {α : Type} {l : List α} {p : α → Bool} {k : Nat} {a : α} (h : l[k]? = some a) (hp : p a = false) : (l.take (k + 1)).filter p = (l.take k).filter p := by
  rw [List.take_add_one, h, Option.toList, List.filter_append, List.filter_cons, if_neg (by rw [hp]; simp), List.filter_nil, List.append_nil]
theorem filter_all {α : Type} {l : List α} {p : α → Bool} {k : Nat} (h : l.length ≤ k) : (l.take k).filter p = l.filter p := by rw [List.take_of_length_le h]
theorem filter_len {α : Type} {l : List α} {p : α → Bool} {n : Nat} (k : Nat) (h : l.length ≤ n) : ((l.take k).filter p).length ≤ n :=
  Nat.le_trans (List.length_filter_le _ _) (Nat.le_trans (List.length_take_le' _ _) h)

end Go.Proofs.YtgegbgkokkdmpaaGreat
