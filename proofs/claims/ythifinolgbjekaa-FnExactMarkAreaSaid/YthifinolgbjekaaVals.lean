/- What memory holds: lists of values of one cell in rows of the call's own; lists of lists of rectangles; append on such lists, on lists of points, pairs and integers. No conditions. -/
import Derived.Test.YthifinolgbjekaaPut
namespace Go.Proofs.Ythifinolgbjekaa
open Go.RowKit

/-- Two rows of different element types lie apart. -/
theorem own_apart {w : World} {B B' s s' n n' : Nat} {e e' : TypeId} {v v' : Value} {xs xs' : List Value} (h : w.ownsRow B e s v n xs) (h' : w.ownsRow B' e' s' v' n' xs') (hne : e ≠ e') : v.ownBlock = none ∨ v.ownBlock ≠ v'.ownBlock := by
  rcases h.2 with ⟨rfl, _⟩ | ⟨g, cap, cur, rfl, _, hh, _⟩
  · exact .inl rfl
  · right
    intro he
    rcases h'.2 with ⟨rfl, _⟩ | ⟨g', cap', cur', rfl, _, hh', _⟩
    · simp [Value.ownBlock] at he
    · simp [Value.ownBlock] at he
      subst he
      rw [hh] at hh'
      simp at hh'
      exact hne hh'.2
theorem Bk.apart' {w : World} {b : Nat} {t e : TypeId} {cs : Array Value} {B s n : Nat} {v : Value} {xs : List Value} (h : Bk w b t cs) (ho : w.ownsRow B e s v n xs) (hne : t ≠ e) : some b ≠ v.ownBlock := by
  intro he
  rcases ho.2 with ⟨rfl, _⟩ | ⟨g, cap, cur, rfl, _, hh, _⟩
  · simp [Value.ownBlock] at he
  · simp [Value.ownBlock] at he
    subst he
    unfold Bk at h
    rw [hh] at h
    simp at h
    exact hne h.2.symm

/-- 'out = append(out, x)' for one element of whatever cells, on a list of the call's own. -/
theorem wpList_append_G {w : World} {ops : Array Oper} {rest : List Oper} {o : Oper} {a : Act} {Q : Exit → Act → World → Prop} (hgd : o.guard = none) (s x : Operand) (e st : TypeId) (size bytes : Nat) (z : Value)
    (hinfo : (Try.prog.info? e).map (fun i => (i.zero, i.size, i.bytes)) = some (some z, size, bytes)) (hst : Try.prog.underlying st = some (.slice e)) (hzs : z.cells.size = size) (hsz : 0 < size) (hby : bytes ≤ 100)
    (ho : o.op = .call { callee := .builtin .append, args := #[s, x], argTypes := #[st, st] })
    (B : Nat) (v : Value) (n : Nat) (xs : List Value) (hs : a.eval s = v) (hown : w.ownsRow B e size v n xs) (cs : List Value) (hcs : cs.length = size) (hone : ∀ u ∈ cs, u.oneCell' = true)
    (hx : a.eval x = .slice (some ⟨w.heap.size, 0, none⟩) 1 1) (hlen : n ≤ 1000000) (hB : B ≤ w.heap.size)
    (h : ∀ v' w', w'.ownsRow B e size v' (n + 1) (xs ++ cs) → w.grownBy w' v.ownBlock → Below B w w' → wpList Try.prog ops Q rest (a.put o.dst v') w') :
    wpList Try.prog ops Q (o :: rest) a (w.alloc (.cells cs.toArray e)) := by
  obtain ⟨i, hi, hz, hsz', hby'⟩ := info_parts hinfo
  refine wpList_append_own _ hgd s x st ho B e i z size bytes hst hi hz hsz' hby' hzs hsz v n xs hs (World.ownsRow.alloc hown _) ⟨w.heap.size, 0, none⟩ 1 1 cs hx (by rw [hcs, Nat.one_mul]) ?_ hone (by simp only [maxLen]; omega) ?_ (by simp; omega) ?_
  · intro j u hu
    rw [Addr.add_lit, World.cell?_alloc_new]
    simpa using hu
  · have : (n + 1) * bytes ≤ 1000001 * 100 := Nat.mul_le_mul (by omega) hby
    omega
  · intro v' w' h1 h2 _
    have h3 := grown_of_alloc h2
    exact h v' w' h1 h3 (below_own hown h3 hB)

/-- The slice value v holds the values vs, one cell each, of element type t. -/
def VL (w : World) (B : Nat) (t : TypeId) (v : Value) (vs : List Value) : Prop := w.ownsRow B t 1 v vs.length vs
section
variable {w w' : World} {B B' : Nat} {t : TypeId} {v : Value} {vs : List Value}
theorem VL.on (h : VL w B t v vs) (hb : Below w.heap.size w w') : VL w' B t v vs := own_on h hb
theorem VL.less (h : VL w B t v vs) (hB : B' ≤ B) : VL w B' t v vs := own_less h hB
theorem VL.nil (w : World) (B : Nat) (t : TypeId) : VL w B t (.slice none 0 0) [] := World.ownsRow_nil w B _ _
theorem VL.alloc (h : VL w B t v vs) (o : Obj) : VL (w.alloc o) B t v vs := World.ownsRow.alloc h o
theorem VL.form (h : VL w B t v vs) : ∃ A cap, v = .slice A vs.length cap ∧ vs.length ≤ cap ∧ cap ≤ maxLen ∧
    (∀ (k : Nat) (u : Value), vs[k]? = some u → ∃ g, A = some ⟨g, 0, none⟩ ∧ B ≤ g ∧ g < w.heap.size ∧ w.cell? ⟨g, k, none⟩ = some u ∧ w.frozen? ⟨g, k, none⟩ = false) := by
  obtain ⟨A, cap, hv, h1, h2, h3⟩ := own_form h
  refine ⟨A, cap, hv, h1, h2, fun k u hk => ?_⟩
  have hlt : k < vs.length := (List.getElem?_eq_some_iff.1 hk).1
  obtain ⟨g, hA, hg, hgw, hc, hf⟩ := h3 (by omega)
  exact ⟨g, hA, hg, hgw, hc k u hk, hf k⟩
/-- The element k, in memory. -/
theorem VL.elem {A : Option Addr} {n c : Nat} (h : VL w B t (.slice A n c) vs) {k : Nat} (hk : k < vs.length) : ∃ g u, A = some ⟨g, 0, none⟩ ∧ vs[k]? = some u ∧ g < w.heap.size ∧ w.cell? ⟨g, k, none⟩ = some u := by
  obtain ⟨A', c', e, _, _, hf⟩ := h.form
  have hr : vs[k]? = some vs[k] := List.getElem?_eq_getElem hk
  obtain ⟨g, hA, _, hg, h0, _⟩ := hf k _ hr
  simp only [Value.slice.injEq] at e
  exact ⟨g, _, e.1.trans hA, hr, hg, h0⟩
end

/-- The slice value v holds the lists rss of rectangles. -/
def RLL (w : World) (B : Nat) (v : Value) (rss : List (List Rc)) : Prop := ∃ vs, VL w B 24 v vs ∧ vs.length = rss.length ∧ ∀ (k : Nat) (u : Value) (rs : List Rc), vs[k]? = some u → rss[k]? = some rs → RL w B u rs
section
variable {w w' : World} {B B' : Nat} {v : Value} {rss : List (List Rc)}
theorem RLL.on (h : RLL w B v rss) (hb : Below w.heap.size w w') : RLL w' B v rss := let ⟨vs, h1, h2, h3⟩ := h; ⟨vs, h1.on hb, h2, fun k u rs hu hr => (h3 k u rs hu hr).on hb⟩
theorem RLL.less (h : RLL w B v rss) (hB : B' ≤ B) : RLL w B' v rss := let ⟨vs, h1, h2, h3⟩ := h; ⟨vs, h1.less hB, h2, fun k u rs hu hr => (h3 k u rs hu hr).less hB⟩
theorem RLL.alloc (h : RLL w B v rss) (o : Obj) : RLL (w.alloc o) B v rss := let ⟨vs, h1, h2, h3⟩ := h; ⟨vs, h1.alloc o, h2, fun k u rs hu hr => World.ownsRow.alloc (h3 k u rs hu hr) o⟩
theorem RLL.nil (w : World) (B : Nat) : RLL w B (.slice none 0 0) [] := ⟨[], VL.nil w B _, rfl, fun k u rs hu => by simp at hu⟩
theorem RLL.form (h : RLL w B v rss) : ∃ A cap, v = .slice A rss.length cap ∧ rss.length ≤ cap ∧ cap ≤ maxLen := by
  obtain ⟨vs, h1, h2, h3⟩ := h
  obtain ⟨A, cap, hv, a1, a2, _⟩ := h1.form
  rw [h2] at hv a1
  exact ⟨A, cap, hv, a1, a2⟩
/-- The list k, in memory. -/
theorem RLL.elem {A : Option Addr} {n c : Nat} (h : RLL w B (.slice A n c) rss) {k : Nat} (hk : k < rss.length) : ∃ g u rs, A = some ⟨g, 0, none⟩ ∧ rss[k]? = some rs ∧ g < w.heap.size ∧ w.cell? ⟨g, k, none⟩ = some u ∧ RL w B u rs := by
  obtain ⟨vs, h1, h2, h3⟩ := h
  obtain ⟨g, u, hA, hu, hg, hc⟩ := h1.elem (k := k) (by omega)
  have hr : rss[k]? = some rss[k] := List.getElem?_eq_getElem hk
  exact ⟨g, u, _, hA, hr, hg, hc, h3 k u _ hu hr⟩
end

/-- The slice value v holds sets of flags. -/
def GSL (w : World) (B : Nat) (v : Value) (Gs : List Gr) : Prop := ∃ vs, VL w B 49 v vs ∧ vs.length = Gs.length ∧ ∀ (k : Nat) (u : Value) (G : Gr), vs[k]? = some u → Gs[k]? = some G → GS w B u G

theorem infoRects : (Try.prog.info? 24).map (fun i => (i.zero, i.size, i.bytes)) = some (some (.slice none 0 0), 1, 24) := by kernel_rfl
/-- 'out = append(out, part)' on a list of lists of rectangles of the call's own. -/
theorem wpList_append_RLL {w : World} {ops : Array Oper} {rest : List Oper} {o : Oper} {a : Act} {Q : Exit → Act → World → Prop} (hgd : o.guard = none) (s x : Operand)
    (ho : o.op = .call { callee := .builtin .append, args := #[s, x], argTypes := #[79, 79] })
    (B : Nat) (v : Value) (rss : List (List Rc)) (hs : a.eval s = v) (hown : RLL w B v rss) (u : Value) (rs : List Rc) (hu : RL w B u rs) (hx : a.eval x = .slice (some ⟨w.heap.size, 0, none⟩) 1 1) (hlen : rss.length ≤ 1000000) (hB : B ≤ w.heap.size)
    (h : ∀ v' w', RLL w' B v' (rss ++ [rs]) → w.grownBy w' v.ownBlock → Below B w w' → wpList Try.prog ops Q rest (a.put o.dst v') w') :
    wpList Try.prog ops Q (o :: rest) a (w.alloc (.cells #[u] 24)) := by
  obtain ⟨vs, h1, h2, h3⟩ := hown
  have hone : u.oneCell' = true := by obtain ⟨A, c, rfl, _⟩ := hu.form; rfl
  refine wpList_append_G hgd s x 24 79 1 24 _ infoRects Try.underlying79 rfl (by decide) (by decide) ho B v vs.length vs hs h1 [u] rfl (by simpa using hone) hx (by omega) hB ?_
  intro v' w' k1 k2 k3
  refine h v' w' ⟨vs ++ [u], by unfold VL; rw [List.length_append]; exact k1, by simp [h2], fun k y qs hy hq => ?_⟩ k2 k3
  by_cases hk : k < vs.length
  · rw [List.getElem?_append_left hk] at hy
    rw [List.getElem?_append_left (by omega)] at hq
    have hr := h3 k y qs hy hq
    exact World.ownsRow.kept hr k2 (own_apart hr h1 (by decide))
  · have hke : k = vs.length := by have := (List.getElem?_eq_some_iff.1 hy).1; simp at this; omega
    subst hke
    rw [List.getElem?_append_right (Nat.le_refl _), Nat.sub_self] at hy
    rw [List.getElem?_append_right (by omega), h2, Nat.sub_self] at hq
    simp at hy hq
    subst hy hq
    exact World.ownsRow.kept hu k2 (own_apart hu h1 (by decide))

section
variable {w w' : World} {B B' : Nat} {v : Value} {Gs : List Gr}
theorem GSL.on (h : GSL w B v Gs) (hb : Below w.heap.size w w') : GSL w' B v Gs := let ⟨vs, h1, h2, h3⟩ := h; ⟨vs, h1.on hb, h2, fun k u G hu hG => (h3 k u G hu hG).on hb⟩
theorem GSL.less (h : GSL w B v Gs) (hB : B' ≤ B) : GSL w B' v Gs := let ⟨vs, h1, h2, h3⟩ := h; ⟨vs, h1.less hB, h2, fun k u G hu hG => (h3 k u G hu hG).less hB⟩
theorem GSL.nil (w : World) (B : Nat) : GSL w B (.slice none 0 0) [] := ⟨[], VL.nil w B _, rfl, fun k u rs hu => by simp at hu⟩
theorem GSL.form (h : GSL w B v Gs) : ∃ A cap, v = .slice A Gs.length cap ∧ Gs.length ≤ cap ∧ cap ≤ maxLen := by
  obtain ⟨vs, h1, h2, h3⟩ := h
  obtain ⟨A, cap, hv, a1, a2, _⟩ := h1.form
  rw [h2] at hv a1
  exact ⟨A, cap, hv, a1, a2⟩
theorem GSL.elem {A : Option Addr} {n c : Nat} (h : GSL w B (.slice A n c) Gs) {k : Nat} (hk : k < Gs.length) : ∃ g u G, A = some ⟨g, 0, none⟩ ∧ Gs[k]? = some G ∧ g < w.heap.size ∧ w.cell? ⟨g, k, none⟩ = some u ∧ GS w B u G := by
  obtain ⟨vs, h1, h2, h3⟩ := h
  obtain ⟨g, u, hA, hu, hg, hc⟩ := h1.elem (k := k) (by omega)
  have hr : Gs[k]? = some Gs[k] := List.getElem?_eq_getElem hk
  exact ⟨g, u, _, hA, hr, hg, hc, h3 k u _ hu hr⟩
theorem GS.kept {w w' : World} {B : Nat} {u : Value} {G : Gr} (h : GS w B u G) {B2 s n : Nat} {e : TypeId} {y : Value} {xs : List Value} (ho : w.ownsRow B2 e s y n xs) (hne : 4 ≠ e) (hg : w.grownBy w' y.ownBlock) : GS w' B u G := by
  obtain ⟨g, c, rfl, hB, cs, hb, hr⟩ := h
  exact ⟨g, c, rfl, hB, cs, hb.grown hg (hb.apart' ho hne), hr⟩
end
theorem infoBools : (Try.prog.info? 49).map (fun i => (i.zero, i.size, i.bytes)) = some (some (.slice none 0 0), 1, 24) := by kernel_rfl
/-- 'out = append(out, part)' on a list of sets of the call's own. -/
theorem wpList_append_GSL {w : World} {ops : Array Oper} {rest : List Oper} {o : Oper} {a : Act} {Q : Exit → Act → World → Prop} (hgd : o.guard = none) (s x : Operand)
    (ho : o.op = .call { callee := .builtin .append, args := #[s, x], argTypes := #[76, 76] })
    (B : Nat) (v : Value) (Gs : List Gr) (hs : a.eval s = v) (hown : GSL w B v Gs) (u : Value) (G : Gr) (hu : GS w B u G) (hx : a.eval x = .slice (some ⟨w.heap.size, 0, none⟩) 1 1) (hlen : Gs.length ≤ 1000000) (hB : B ≤ w.heap.size)
    (h : ∀ v' w', GSL w' B v' (Gs ++ [G]) → w.grownBy w' v.ownBlock → Below B w w' → wpList Try.prog ops Q rest (a.put o.dst v') w') :
    wpList Try.prog ops Q (o :: rest) a (w.alloc (.cells #[u] 49)) := by
  obtain ⟨vs, h1, h2, h3⟩ := hown
  have hone : u.oneCell' = true := by obtain ⟨g, c, rfl, _⟩ := hu; rfl
  refine wpList_append_G hgd s x 49 76 1 24 _ infoBools Try.underlying76 rfl (by decide) (by decide) ho B v vs.length vs hs h1 [u] rfl (by simpa using hone) hx (by omega) hB ?_
  intro v' w' k1 k2 k3
  refine h v' w' ⟨vs ++ [u], by unfold VL; rw [List.length_append]; exact k1, by simp [h2], fun k y H hy hq => ?_⟩ k2 k3
  by_cases hk : k < vs.length
  · rw [List.getElem?_append_left hk] at hy
    rw [List.getElem?_append_left (by omega)] at hq
    exact (h3 k y H hy hq).kept h1 (by decide) k2
  · have hke : k = vs.length := by have := (List.getElem?_eq_some_iff.1 hy).1; simp at this; omega
    subst hke
    rw [List.getElem?_append_right (Nat.le_refl _), Nat.sub_self] at hy
    rw [List.getElem?_append_right (by omega), h2, Nat.sub_self] at hq
    simp at hy hq
    subst hy hq
    exact hu.kept h1 (by decide) k2

end Go.Proofs.Ythifinolgbjekaa
