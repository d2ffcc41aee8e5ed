/- Contracts: facing, the program's FacingEdges. Conditions: a set of cells in memory, a region in memory. -/
import Derived.Test.YtjiljodchebniaaGreatQ24
import Derived.Test.YtjiljodchebniaaGreatQ28
import Derived.Carry

namespace Go.Proofs.YtjiljodchebniaaGreat
open Go.Maps Go.RowKit

@[go_sem high] theorem run_store_fn (P : Program) (w : World) (a : Addr) (m : Mode) (f : Fn) (fa fc : Array Value) : (store a (.func f fa fc) m).run P w = stored P w a (.func f fa fc) m := run_store P w a _ m rfl

/-! What the two maps hold. -/
theorem ptV_inj {a b c d : Int} (h : ptV a b = ptV c d) : a = c ∧ b = d := by
  unfold ptV at h
  simp only [Value.agg.injEq, Array.mk.injEq, List.cons.injEq, Value.int.injEq, true_and, and_true] at h
  exact h
def CovV (e : Ed) (a t : Int) : Prop := e.x0 = a ∧ min e.y0 e.y1 ≤ t ∧ t < max e.y0 e.y1
def CovH (e : Ed) (a t : Int) : Prop := e.y0 = a ∧ min e.x0 e.x1 ≤ t ∧ t < max e.x0 e.x1
def DoneV (es : List Ed) (n : Nat) (y : Int) (U : Value → Value) : Prop := ∀ a t, ((∃ j e, j < n ∧ es[j]? = some e ∧ CovV e a t) ∨ (∃ e, es[n]? = some e ∧ CovV e a t ∧ t < y)) → ∃ e ∈ es, CovV e a t ∧ U (ptV a t) = e.val
def DoneH (es : List Ed) (n : Nat) (y : Int) (U : Value → Value) : Prop := ∀ a t, ((∃ j e, j < n ∧ es[j]? = some e ∧ CovH e a t) ∨ (∃ e, es[n]? = some e ∧ CovH e a t ∧ t < y)) → ∃ e ∈ es, CovH e a t ∧ U (ptV t a) = e.val
theorem doneV_start {es : List Ed} {n : Nat} {U : Value → Value} {e : Ed} (h : DoneV es n (-100) U) (he : es[n]? = some e) {y : Int} (hy : y ≤ min e.y0 e.y1) : DoneV es n y U := fun a t hh => by
  rcases hh with hh | ⟨e2, h2, h3, h4⟩
  · exact h a t (.inl hh)
  · rw [he] at h2
    obtain rfl := Option.some.inj h2
    have := h3.2.1
    omega
theorem doneV_zero {es : List Ed} (U : Value → Value) (hs : ∀ e ∈ es, smallE e) : DoneV es 0 (-100) U := fun a t hh => by
  rcases hh with ⟨j, e2, k1, k2, k3⟩ | ⟨e2, k2, k3, k4⟩
  · omega
  · exfalso
    have h5 := k3.2.1
    have h6 := hs e2 (List.mem_of_getElem? k2)
    unfold smallE at h6
    omega
theorem doneV_step {es : List Ed} {n : Nat} {U : Value → Value} {e : Ed} {y : Int} (h : DoneV es n y U) (he : es[n]? = some e) (h1 : min e.y0 e.y1 ≤ y) (h2 : y < max e.y0 e.y1) : DoneV es n (y + 1) (updV U (ptV e.x0 y) e.val) := fun a t hh => by
  by_cases hk : ptV a t = ptV e.x0 y
  · obtain ⟨g1, g2⟩ := ptV_inj hk
    rw [hk, updV_same]
    exact ⟨e, List.mem_of_getElem? he, ⟨by omega, by omega, by omega⟩, rfl⟩
  · rw [updV_other _ _ hk]
    refine h a t ?_
    rcases hh with hh | ⟨e2, k2, k3, k4⟩
    · exact .inl hh
    · refine .inr ⟨e2, k2, k3, ?_⟩
      rw [he] at k2
      obtain rfl := Option.some.inj k2
      by_cases hty : t = y
      · subst hty
        have := k3.1
        exact absurd (by rw [this]) hk
      · omega
theorem doneV_next {es : List Ed} {n : Nat} {U : Value → Value} {e : Ed} {y : Int} (h : DoneV es n y U) (he : es[n]? = some e) (h1 : max e.y0 e.y1 ≤ y) (hs : ∀ e ∈ es, smallE e) : DoneV es (n + 1) (-100) U := fun a t hh => by
  refine h a t ?_
  rcases hh with ⟨j, e2, k1, k2, k3⟩ | ⟨e2, k2, k3, k4⟩
  · by_cases hj : j < n
    · exact .inl ⟨j, e2, hj, k2, k3⟩
    · obtain rfl : j = n := by omega
      refine .inr ⟨e2, k2, k3, ?_⟩
      rw [he] at k2
      obtain rfl := Option.some.inj k2
      have := k3.2.2
      omega
  · exfalso
    have h5 := k3.2.1
    have h6 := hs e2 (List.mem_of_getElem? k2)
    unfold smallE at h6
    omega
theorem doneH_start {es : List Ed} {n : Nat} {U : Value → Value} {e : Ed} (h : DoneH es n (-100) U) (he : es[n]? = some e) {y : Int} (hy : y ≤ min e.x0 e.x1) : DoneH es n y U := fun a t hh => by
  rcases hh with hh | ⟨e2, h2, h3, h4⟩
  · exact h a t (.inl hh)
  · rw [he] at h2
    obtain rfl := Option.some.inj h2
    have := h3.2.1
    omega
theorem doneH_zero {es : List Ed} (U : Value → Value) (hs : ∀ e ∈ es, smallE e) : DoneH es 0 (-100) U := fun a t hh => by
  rcases hh with ⟨j, e2, k1, k2, k3⟩ | ⟨e2, k2, k3, k4⟩
  · omega
  · exfalso
    have h5 := k3.2.1
    have h6 := hs e2 (List.mem_of_getElem? k2)
    unfold smallE at h6
    omega
theorem doneH_step {es : List Ed} {n : Nat} {U : Value → Value} {e : Ed} {y : Int} (h : DoneH es n y U) (he : es[n]? = some e) (h1 : min e.x0 e.x1 ≤ y) (h2 : y < max e.x0 e.x1) : DoneH es n (y + 1) (updV U (ptV y e.y0) e.val) := fun a t hh => by
  by_cases hk : ptV t a = ptV y e.y0
  · obtain ⟨g1, g2⟩ := ptV_inj hk
    rw [hk, updV_same]
    exact ⟨e, List.mem_of_getElem? he, ⟨by omega, by omega, by omega⟩, rfl⟩
  · rw [updV_other _ _ hk]
    refine h a t ?_
    rcases hh with hh | ⟨e2, k2, k3, k4⟩
    · exact .inl hh
    · refine .inr ⟨e2, k2, k3, ?_⟩
      rw [he] at k2
      obtain rfl := Option.some.inj k2
      by_cases hty : t = y
      · subst hty
        have := k3.1
        exact absurd (by rw [this]) hk
      · omega
theorem doneH_next {es : List Ed} {n : Nat} {U : Value → Value} {e : Ed} {y : Int} (h : DoneH es n y U) (he : es[n]? = some e) (h1 : max e.x0 e.x1 ≤ y) (hs : ∀ e ∈ es, smallE e) : DoneH es (n + 1) (-100) U := fun a t hh => by
  refine h a t ?_
  rcases hh with ⟨j, e2, k1, k2, k3⟩ | ⟨e2, k2, k3, k4⟩
  · by_cases hj : j < n
    · exact .inl ⟨j, e2, hj, k2, k3⟩
    · obtain rfl : j = n := by omega
      refine .inr ⟨e2, k2, k3, ?_⟩
      rw [he] at k2
      obtain rfl := Option.some.inj k2
      have := k3.2.2
      omega
  · exfalso
    have h5 := k3.2.1
    have h6 := hs e2 (List.mem_of_getElem? k2)
    unfold smallE at h6
    omega
theorem whole_same {G : Gr} {k a p q t : Int} {v : Bool} (hk : k = 1 ∨ k = -1) (hall : ∀ u, p ≤ u → u < q → stG G v a u = k) (h1 : stG G v a (p - 1) ≠ k) (h2 : stG G v a q ≠ k) (g1 : p ≤ t) (g2 : t < q) : edOf v k a p q = wholeE G v k a t := by
  have hs := hall t g1 g2
  obtain ⟨e1, e2⟩ := whole_ends (by omega) hs
  have l1 := runDn_le (stG G v a) k 100 t
  have l2 := runUp_ge (stG G v a) k 100 (t + 1)
  have := run_one (f := stG G v a) (k := k) (t := t) ⟨g1, g2⟩ (p' := runDn (stG G v a) k 100 t) (q' := runUp (stG G v a) k 100 (t + 1)) ⟨l1, by omega⟩ hall (fun u c1 c2 => by
    by_cases d1 : u < t
    · exact runDn_all _ _ _ _ _ c1 d1
    · by_cases d2 : u = t
      · rw [d2]; exact hs
      · exact runUp_all _ _ _ _ _ (by omega) c2) h1 h2 e1 e2
  unfold wholeE
  rw [← this.1, ← this.2]
theorem cov_v {G : Gr} {e : Ed} {a t k : Int} (h : EdgeC G e) (hc : CovV e a t) (hk : k = 1 ∨ k = -1) (hs : stG G true a t = k) : e = wholeE G true k a t := by
  obtain ⟨v, k', a', p, q, hk', hpq, rfl, hall, e1, e2⟩ := h
  obtain ⟨c1, c2, c3⟩ := hc
  cases v
  · exfalso
    rcases hk' with rfl | rfl
    · rw [show edOf false 1 a' p q = ⟨p, a', q, a'⟩ from rfl] at c2 c3
      dsimp only at c2 c3
      omega
    · rw [show edOf false (-1) a' p q = ⟨q, a', p, a'⟩ from rfl] at c2 c3
      dsimp only at c2 c3
      omega
  · have hin : a' = a ∧ p ≤ t ∧ t < q := by
      rcases hk' with rfl | rfl
      · rw [show edOf true 1 a' p q = ⟨a', q, a', p⟩ from rfl] at c1 c2 c3
        dsimp only at c1 c2 c3
        omega
      · rw [show edOf true (-1) a' p q = ⟨a', p, a', q⟩ from rfl] at c1 c2 c3
        dsimp only at c1 c2 c3
        omega
    obtain ⟨rfl, g1, g2⟩ := hin
    obtain rfl : k = k' := hs.symm.trans (hall t g1 g2)
    exact whole_same hk hall e1 e2 g1 g2
theorem cov_h {G : Gr} {e : Ed} {a t k : Int} (h : EdgeC G e) (hc : CovH e a t) (hk : k = 1 ∨ k = -1) (hs : stG G false a t = k) : e = wholeE G false k a t := by
  obtain ⟨v, k', a', p, q, hk', hpq, rfl, hall, e1, e2⟩ := h
  obtain ⟨c1, c2, c3⟩ := hc
  cases v
  · have hin : a' = a ∧ p ≤ t ∧ t < q := by
      rcases hk' with rfl | rfl
      · rw [show edOf false 1 a' p q = ⟨p, a', q, a'⟩ from rfl] at c1 c2 c3
        dsimp only at c1 c2 c3
        omega
      · rw [show edOf false (-1) a' p q = ⟨q, a', p, a'⟩ from rfl] at c1 c2 c3
        dsimp only at c1 c2 c3
        omega
    obtain ⟨rfl, g1, g2⟩ := hin
    obtain rfl : k = k' := hs.symm.trans (hall t g1 g2)
    exact whole_same hk hall e1 e2 g1 g2
  · exfalso
    rcases hk' with rfl | rfl
    · rw [show edOf true 1 a' p q = ⟨a', q, a', p⟩ from rfl] at c2 c3
      dsimp only at c2 c3
      omega
    · rw [show edOf true (-1) a' p q = ⟨a', p, a', q⟩ from rfl] at c2 c3
      dsimp only at c2 c3
      omega
theorem whole_cov (G : Gr) (k a t : Int) : CovV (wholeE G true k a t) a t ∧ CovH (wholeE G false k a t) a t := by
  have h1 := whole_has (G := G) k true a t
  have h2 := whole_has (G := G) k false a t
  unfold CovV CovH wholeE edOf
  dsimp only
  constructor
  · split
    · exact ⟨rfl, by dsimp only; omega, by dsimp only; omega⟩
    · exact ⟨rfl, by dsimp only; omega, by dsimp only; omega⟩
  · split
    · exact ⟨rfl, by dsimp only; omega, by dsimp only; omega⟩
    · exact ⟨rfl, by dsimp only; omega, by dsimp only; omega⟩
theorem doneV_all {G : Gr} {es : List Ed} {U : Value → Value} (hE : EdgesOf G es) (h : DoneV es es.length (-100) U) : MapU G U := fun k a t hk hs => by
  have hw := (hE _).2 (whole_edge hk hs)
  obtain ⟨j, hj, he⟩ := List.mem_iff_getElem.1 hw
  obtain ⟨e, he2, hc, hU⟩ := h a t (.inl ⟨j, _, hj, by rw [List.getElem?_eq_getElem hj, he], (whole_cov G k a t).1⟩)
  rw [hU, cov_v ((hE e).1 he2) hc hk hs]
theorem doneH_all {G : Gr} {es : List Ed} {U : Value → Value} (hE : EdgesOf G es) (h : DoneH es es.length (-100) U) : MapL G U := fun k a t hk hs => by
  have hw := (hE _).2 (whole_edge hk hs)
  obtain ⟨j, hj, he⟩ := List.mem_iff_getElem.1 hw
  obtain ⟨e, he2, hc, hU⟩ := h a t (.inl ⟨j, _, hj, by rw [List.getElem?_eq_getElem hj, he], (whole_cov G k a t).2⟩)
  rw [hU, cov_h ((hE e).1 he2) hc hk hs]

/-! The state while the maps are filled. -/
structure FB (w : World) (cb db ib ub vb g mu ml : Nat) (G : Gr) (d : Int) (v : Value) (es : List Ed) (U L : Value → Value) (nu nl : Nat) (W : World) : Prop where
  fc : Bk W cb 60 #[.pointer (some ⟨g, 0, none⟩)]
  fd : Bk W db 2 #[.int .i64 d]
  fi : Bk W ib 4 #[.bool true]
  fu : Bk W ub 91 #[.map (some mu)]
  fv : Bk W vb 91 #[.map (some ml)]
  fg : GB W g 89 G
  fmu : MapV Tryz.prog 93 zeroEdV W mu nu U
  fml : MapV Tryz.prog 93 zeroEdV W ml nl L
  fel : EL W w.heap.size v es
  fb : Below w.heap.size w W
  hu : w.heap.size ≤ mu
  hl : w.heap.size ≤ ml
  ne : mu ≠ ml
section
variable {w : World} {cb db ib ub vb g mu ml : Nat} {G : Gr} {d : Int} {v : Value} {es : List Ed} {U L : Value → Value} {nu nl : Nat} {W W' : World}
theorem FB.on (h : FB w cb db ib ub vb g mu ml G d v es U L nu nl W) (hb : Below W.heap.size W W') : FB w cb db ib ub vb g mu ml G d v es U L nu nl W' :=
  ⟨h.fc.on hb, h.fd.on hb, h.fi.on hb, h.fu.on hb, h.fv.on hb, h.fg.on hb, h.fmu.on hb, h.fml.on hb, h.fel.on hb, h.fb.trans (hb.mono h.fb.size), h.hu, h.hl, h.ne⟩
theorem bk_map {b m : Nat} {t : TypeId} {cs : Array Value} (hb : Bk W b t cs) (hm : ∃ es c, W.heap[m]? = some (.map es c)) : b ≠ m := by
  rintro rfl
  obtain ⟨es, c, hm⟩ := hm
  unfold Bk at hb
  rw [hm] at hb
  cases hb
theorem own_map {B n size m : Nat} {e : TypeId} {v : Value} {xs : List Value} (h : W.ownsRow B e size v n xs) (hm : ∃ es c, W.heap[m]? = some (.map es c)) : v.ownBlock ≠ some m := fun h2 => by
  obtain ⟨es, c, hm⟩ := hm
  rcases h.2 with ⟨rfl, _⟩ | ⟨g', cap, cur, rfl, _, hh, _⟩
  · simp [Value.ownBlock] at h2
  · simp [Value.ownBlock] at h2
    subst h2
    rw [hm] at hh
    cases hh
theorem FB.putU {U' : Value → Value} {nu' : Nat} (h : FB w cb db ib ub vb g mu ml G d v es U L nu nl W) (hm : MapV Tryz.prog 93 zeroEdV W' mu nu' U') (hg : W.grownBy W' (some mu)) : FB w cb db ib ub vb g mu ml G d v es U' L nu' nl W' := by
  have im := h.fmu.isMap
  obtain ⟨cs, g1, g2⟩ := h.fg
  exact ⟨only_bk hg h.fc (bk_map h.fc im), only_bk hg h.fd (bk_map h.fd im), only_bk hg h.fi (bk_map h.fi im), only_bk hg h.fu (bk_map h.fu im), only_bk hg h.fv (bk_map h.fv im), ⟨cs, only_bk hg g1 (bk_map g1 im), g2⟩, hm, h.fml.grown hg (by simpa using h.ne.symm), only_own hg h.fel (own_map h.fel im), h.fb.grown hg h.fb.size (fun q hq => by simp only [Option.some.injEq] at hq; have := h.hu; omega), h.hu, h.hl, h.ne⟩
theorem FB.putL {L' : Value → Value} {nl' : Nat} (h : FB w cb db ib ub vb g mu ml G d v es U L nu nl W) (hm : MapV Tryz.prog 93 zeroEdV W' ml nl' L') (hg : W.grownBy W' (some ml)) : FB w cb db ib ub vb g mu ml G d v es U L' nu nl' W' := by
  have im := h.fml.isMap
  obtain ⟨cs, g1, g2⟩ := h.fg
  exact ⟨only_bk hg h.fc (bk_map h.fc im), only_bk hg h.fd (bk_map h.fd im), only_bk hg h.fi (bk_map h.fi im), only_bk hg h.fu (bk_map h.fu im), only_bk hg h.fv (bk_map h.fv im), ⟨cs, only_bk hg g1 (bk_map g1 im), g2⟩, h.fmu.grown hg (by simpa using h.ne), hm, only_own hg h.fel (own_map h.fel im), h.fb.grown hg h.fb.size (fun q hq => by simp only [Option.some.injEq] at hq; have := h.hl; omega), h.hu, h.hl, h.ne⟩
end
theorem FS.fresh {w : World} {N : FN} {G : Gr} {d : Int} {U L : Value → Value} {nu nl lb : Nat} {line : Int} {v : Value} {es ms : List EP} {W : World} (h : FS w N G d U L nu nl lb line v es ms W) (y : Int) : FS w N G d U L nu nl W.heap.size y v es ms (W.alloc (.cells #[.int .i64 y] 2)) := by
  have h2 := h.on ((Below.refl W.heap.size W).alloc (Nat.le_refl _) (.cells #[.int .i64 y] 2))
  exact ⟨⟨h2.z.c, h2.z.dd, h2.z.i, h2.z.u, h2.z.v, h2.z.m, h2.z.k, h2.z.q, h2.z.a, Bk.new W _ _, h2.z.gb, h2.z.mu, h2.z.ml, h2.z.h1, h2.z.h2⟩, h2.o, h2.row, h2.mm, h2.bel, h2.hob, h2.hmm⟩


theorem FB.start {w W w1 : World} {cb db ib g : Nat} {G : Gr} {d : Int} {v : Value} {es : List Ed} (hc : Bk W cb 60 #[.pointer (some ⟨g, 0, none⟩)]) (hd : Bk W db 2 #[.int .i64 d]) (hi : Bk W ib 4 #[.bool true]) (hG : GB W g 89 G) (hb : Below w.heap.size w W) (hb1 : Below W.heap.size W w1) (hE : EL w1 w.heap.size v es) :
    FB w cb db ib (w1.heap.size + 1 + 1) (w1.heap.size + 1 + 1 + 1) g w1.heap.size (w1.heap.size + 1) G d v es (fun _ => zeroEdV) (fun _ => zeroEdV) 0 0 ((((w1.alloc (.map #[] 0)).alloc (.map #[] 0)).alloc (.cells #[.map (some w1.heap.size)] 91)).alloc (.cells #[.map (some (w1.heap.size + 1))] 91)) := by
  have a1 := (Below.refl w1.heap.size w1).alloc (Nat.le_refl _) (.map #[] 0)
  have a2 := a1.alloc (by simp) (.map #[] 0)
  have a3 := a2.alloc (by simp; omega) (.cells #[.map (some w1.heap.size)] 91)
  have a4 := a3.alloc (by simp; omega) (.cells #[.map (some (w1.heap.size + 1))] 91)
  have s1 : (w1.alloc (.map #[] 0)).heap.size = w1.heap.size + 1 := by simp
  have s2 : ((w1.alloc (.map #[] 0)).alloc (.map #[] 0)).heap.size = w1.heap.size + 1 + 1 := by simp
  have s3 : (((w1.alloc (.map #[] 0)).alloc (.map #[] 0)).alloc (.cells #[.map (some w1.heap.size)] 91)).heap.size = w1.heap.size + 1 + 1 + 1 := by simp
  have m1 := (((MapV.made Tryz.prog 93 zeroEdV w1).alloc (.map #[] 0)).alloc (.cells #[.map (some w1.heap.size)] 91)).alloc (.cells #[.map (some (w1.heap.size + 1))] 91)
  have m2 := ((MapV.made Tryz.prog 93 zeroEdV (w1.alloc (.map #[] 0))).alloc (.cells #[.map (some w1.heap.size)] 91)).alloc (.cells #[.map (some (w1.heap.size + 1))] 91)
  have k1 := (Bk.new ((w1.alloc (.map #[] 0)).alloc (.map #[] 0)) 91 #[.map (some w1.heap.size)]).alloc (.cells #[.map (some (w1.heap.size + 1))] 91)
  have k2 := Bk.new (((w1.alloc (.map #[] 0)).alloc (.map #[] 0)).alloc (.cells #[.map (some w1.heap.size)] 91)) 91 #[.map (some (w1.heap.size + 1))]
  rw [s1] at m2
  rw [s2] at k1
  rw [s3] at k2
  have hz := hb.size
  have hz1 := hb1.size
  exact ⟨(hc.on hb1).on a4, (hd.on hb1).on a4, (hi.on hb1).on a4, k1, k2, (hG.on hb1).on a4, m1, m2, hE.on a4, (hb.trans (hb1.mono hz)).trans (a4.mono (by omega)), by omega, by omega, by omega⟩

/-- The blocks of facing, from the numbers of its first ones. -/
def fnOf (cb db ib ub vb g mu ml n : Nat) : FN := ⟨cb, db, ib, ub, vb, n + 1 + 1, n + 1 + 1 + 1, n + 1 + 1 + 1 + 1, n + 1 + 1 + 1 + 1 + 1, n + 1 + 1 + 1 + 1 + 1 + 1, g, mu, ml, n⟩
theorem FS.start {w Wm P1 P2 P3 P4 P5 P6 P7 P8 : World} {cb db ib ub vb g mu ml : Nat} {G : Gr} {d : Int} {v : Value} {es : List Ed} {U L : Value → Value} {nu nl : Nat} (h : FB w cb db ib ub vb g mu ml G d v es U L nu nl Wm)
    (e1 : P1 = Wm.alloc (.map #[] 0))
    (e2 : P2 = P1.alloc (.cells #[] 50))
    (e3 : P3 = P2.alloc (.cells #[.map (some (Wm.heap.size))] 94))
    (e4 : P4 = P3.alloc (.cells #[.slice (some ⟨Wm.heap.size + 1, 0, none⟩) 0 0] 39))
    (e5 : P5 = P4.alloc (.cells #[.func (.func 52) #[] #[.pointer (some ⟨Wm.heap.size + 1 + 1, 0, none⟩), .pointer (some ⟨Wm.heap.size + 1 + 1 + 1, 0, none⟩)]] 95))
    (e6 : P6 = P5.alloc (.cells #[.func (.func 53) #[] #[.pointer (some ⟨ib, 0, none⟩)]] 96))
    (e7 : P7 = P6.alloc (.cells #[.func (.func 54) #[] #[.pointer (some ⟨db, 0, none⟩), .pointer (some ⟨ib, 0, none⟩)]] 97))
    (e8 : P8 = P7.alloc (.cells #[.int .i64 (-40)] 2))
    : FS w (fnOf cb db ib ub vb g mu ml Wm.heap.size) G d U L nu nl (Wm.heap.size + 1 + 1 + 1 + 1 + 1 + 1 + 1) (-40) (.slice (some ⟨Wm.heap.size + 1, 0, none⟩) 0 0) [] [] P8 := by
  have s1 : P1.heap.size = Wm.heap.size + 1 := by rw [e1]; simp
  have s2 : P2.heap.size = Wm.heap.size + 1 + 1 := by rw [e2]; simp; omega
  have s3 : P3.heap.size = Wm.heap.size + 1 + 1 + 1 := by rw [e3]; simp; omega
  have s4 : P4.heap.size = Wm.heap.size + 1 + 1 + 1 + 1 := by rw [e4]; simp; omega
  have s5 : P5.heap.size = Wm.heap.size + 1 + 1 + 1 + 1 + 1 := by rw [e5]; simp; omega
  have s6 : P6.heap.size = Wm.heap.size + 1 + 1 + 1 + 1 + 1 + 1 := by rw [e6]; simp; omega
  have s7 : P7.heap.size = Wm.heap.size + 1 + 1 + 1 + 1 + 1 + 1 + 1 := by rw [e7]; simp; omega
  have s8 : P8.heap.size = Wm.heap.size + 1 + 1 + 1 + 1 + 1 + 1 + 1 + 1 := by rw [e8]; simp; omega
  have b78 : Below P7.heap.size P7 P8 := by rw [e8]; exact (Below.refl _ _).alloc (Nat.le_refl _) _
  have b6 : Below P6.heap.size P6 P8 := (show Below P6.heap.size P6 P7 by rw [e7]; exact (Below.refl _ _).alloc (Nat.le_refl _) _).trans (b78.mono (by rw [s7, s6]; omega))
  have b5 : Below P5.heap.size P5 P8 := (show Below P5.heap.size P5 P6 by rw [e6]; exact (Below.refl _ _).alloc (Nat.le_refl _) _).trans (b6.mono (by rw [s6, s5]; omega))
  have b4 : Below P4.heap.size P4 P8 := (show Below P4.heap.size P4 P5 by rw [e5]; exact (Below.refl _ _).alloc (Nat.le_refl _) _).trans (b5.mono (by rw [s5, s4]; omega))
  have b3 : Below P3.heap.size P3 P8 := (show Below P3.heap.size P3 P4 by rw [e4]; exact (Below.refl _ _).alloc (Nat.le_refl _) _).trans (b4.mono (by rw [s4, s3]; omega))
  have b2 : Below P2.heap.size P2 P8 := (show Below P2.heap.size P2 P3 by rw [e3]; exact (Below.refl _ _).alloc (Nat.le_refl _) _).trans (b3.mono (by rw [s3, s2]; omega))
  have b1 : Below P1.heap.size P1 P8 := (show Below P1.heap.size P1 P2 by rw [e2]; exact (Below.refl _ _).alloc (Nat.le_refl _) _).trans (b2.mono (by rw [s2, s1]; omega))
  have b0 : Below Wm.heap.size Wm P8 := (show Below Wm.heap.size Wm P1 by rw [e1]; exact (Below.refl _ _).alloc (Nat.le_refl _) _).trans (b1.mono (by rw [s1]; omega))
  have m0 : MapV Tryz.prog 50 (.bool false) P8 Wm.heap.size 0 (fun _ => .bool false) := (show MapV Tryz.prog 50 (.bool false) P1 Wm.heap.size 0 (fun _ => .bool false) by rw [e1]; exact MapV.made _ _ _ _).on b1
  have k3 : Bk P3 (Wm.heap.size + 1 + 1) 94 #[.map (some (Wm.heap.size))] := by
    have h9 := Bk.new P2 94 #[.map (some (Wm.heap.size))]
    rw [← e3, s2] at h9
    exact h9
  have k4 : Bk P4 (Wm.heap.size + 1 + 1 + 1) 39 #[.slice (some ⟨Wm.heap.size + 1, 0, none⟩) 0 0] := by
    have h9 := Bk.new P3 39 #[.slice (some ⟨Wm.heap.size + 1, 0, none⟩) 0 0]
    rw [← e4, s3] at h9
    exact h9
  have k5 : Bk P5 (Wm.heap.size + 1 + 1 + 1 + 1) 95 #[.func (.func 52) #[] #[.pointer (some ⟨Wm.heap.size + 1 + 1, 0, none⟩), .pointer (some ⟨Wm.heap.size + 1 + 1 + 1, 0, none⟩)]] := by
    have h9 := Bk.new P4 95 #[.func (.func 52) #[] #[.pointer (some ⟨Wm.heap.size + 1 + 1, 0, none⟩), .pointer (some ⟨Wm.heap.size + 1 + 1 + 1, 0, none⟩)]]
    rw [← e5, s4] at h9
    exact h9
  have k6 : Bk P6 (Wm.heap.size + 1 + 1 + 1 + 1 + 1) 96 #[.func (.func 53) #[] #[.pointer (some ⟨ib, 0, none⟩)]] := by
    have h9 := Bk.new P5 96 #[.func (.func 53) #[] #[.pointer (some ⟨ib, 0, none⟩)]]
    rw [← e6, s5] at h9
    exact h9
  have k7 : Bk P7 (Wm.heap.size + 1 + 1 + 1 + 1 + 1 + 1) 97 #[.func (.func 54) #[] #[.pointer (some ⟨db, 0, none⟩), .pointer (some ⟨ib, 0, none⟩)]] := by
    have h9 := Bk.new P6 97 #[.func (.func 54) #[] #[.pointer (some ⟨db, 0, none⟩), .pointer (some ⟨ib, 0, none⟩)]]
    rw [← e7, s6] at h9
    exact h9
  have k8 : Bk P8 (Wm.heap.size + 1 + 1 + 1 + 1 + 1 + 1 + 1) 2 #[.int .i64 (-40)] := by
    have h9 := Bk.new P7 2 #[.int .i64 (-40)]
    rw [← e8, s7] at h9
    exact h9
  have r0 : PEL P8 w.heap.size (.slice (some ⟨Wm.heap.size + 1, 0, none⟩) 0 0) [] := by
    have h9 : PEL (P1.alloc (.cells #[] 50)) P1.heap.size (.slice (some ⟨P1.heap.size, 0, none⟩) 0 0) [] := World.ownsRow_lit P1 #[] 0 (Nat.le_refl _) (by simp [maxLen]) (by simp)
    rw [← e2, s1] at h9
    exact (h9.less (by have := h.fb.size; omega)).on b2
  have hz := h.fb.size
  have q := h.on b0
  have l1 := h.fmu.lt
  have l2 := h.fml.lt
  refine ⟨⟨q.fc, q.fd, q.fi, q.fu, q.fv, k3.on b3, k6.on b6, k7.on b78, k5.on b5, k8, q.fg, q.fmu, q.fml, Nat.ne_of_lt l1, Nat.ne_of_lt l2⟩, k4.on b4, r0, ⟨_, m0, fun x => by simp⟩, q.fb, ?_, hz⟩
  show w.heap.size ≤ Wm.heap.size + 1 + 1 + 1
  omega

set_option maxHeartbeats 3200000 in
set_option maxRecDepth 100000 in
/-- facing. -/
theorem facing_any (g : Nat) (G : Gr) (d : Int) (w : World) (hG : GB w g 89 G) :
    Calls Tryz.prog 25 #[.pointer (some ⟨g, 0, none⟩), .int .i64 d, .bool true] w fun e w' => ∃ v, e = .returned v ∧ PEL w' w.heap.size v (srtP (faceL G d)) ∧ Below w.heap.size w w' := by
  have hgl := hG.lt
  have z0 := ((Bk.new w 60 #[.pointer (some ⟨g, 0, none⟩)]).alloc (.cells #[.int .i64 d] 2)).alloc (.cells #[.bool true] 4)
  have z1 := (Bk.new (w.alloc (.cells #[.pointer (some ⟨g, 0, none⟩)] 60)) 2 #[.int .i64 d]).alloc (.cells #[.bool true] 4)
  have z2 := Bk.new ((w.alloc (.cells #[.pointer (some ⟨g, 0, none⟩)] 60)).alloc (.cells #[.int .i64 d] 2)) 4 #[.bool true]
  have b3 := (((Below.refl w.heap.size w).alloc (Nat.le_refl _) (.cells #[.pointer (some ⟨g, 0, none⟩)] 60)).alloc (by simp) (.cells #[.int .i64 d] 2)).alloc (by simp; omega) (.cells #[.bool true] 4)
  rw [show (w.alloc (.cells #[.pointer (some ⟨g, 0, none⟩)] 60)).heap.size = w.heap.size + 1 by simp] at z1
  rw [show ((w.alloc (.cells #[.pointer (some ⟨g, 0, none⟩)] 60)).alloc (.cells #[.int .i64 d] 2)).heap.size = w.heap.size + 1 + 1 by simp] at z2
  obtain ⟨W0, hW0⟩ : ∃ W, W = ((w.alloc (.cells #[.pointer (some ⟨g, 0, none⟩)] 60)).alloc (.cells #[.int .i64 d] 2)).alloc (.cells #[.bool true] 4) := ⟨_, rfl⟩
  rw [← hW0] at z0 z1 z2 b3
  have g0 := hG.on b3
  have d0 : W0.cell? ⟨w.heap.size, 0, none⟩ = some (.pointer (some ⟨g, 0, none⟩)) := z0.cell 0
  have hmm := @run_makeMap Tryz.prog
  clear hG
  go_enter Tryz.func25, Tryz.ntmps25
  go_upto_region 1 with fail
  rw [← hW0]
  clear hW0
  obtain ⟨es, Hes⟩ : ∃ es, Hid (es = srtE (bndTo G 81)) := ⟨_, Lib.hid rfl⟩
  go_wp2_with (go_at_call 27; (with_reducible refine (boundary_any g G _ g0).mono ?_); rintro e w1 ⟨v, rfl, hE, hb1⟩; rw [← Hes.out] at hE; obtain ⟨A, c, rfl, hc1, hc2, -⟩ := hE.form; unfold maxLen at hc2; have F0 := FB.start z0 z1 z2 g0 b3 hb1 (hE.less b3.size); have HF0 := Lib.hid F0; clear F0 hE)
  have HEO : Hid (EdgesOf G es) := Lib.hid (by rw [Hes.out]; exact fun e => (srtE_mem _ e).trans (bnd_mem G e))
  have hsm : ∀ e ∈ es, smallE e := fun e he => smallE_of ((HEO.out e).1 he)
  have HSM := Lib.hid hsm
  have hel : es.length ≤ 13000 := by rw [Hes.out, srtE_len]; have := bndTo_len G 81; omega
  have HD1 := Lib.hid (doneV_zero (fun _ => zeroEdV) hsm)
  have HD2 := Lib.hid (doneH_zero (fun _ => zeroEdV) hsm)
  have HF9 := HF0.out
  clear HF0 hsm
  go_loopw [26] (fun iv wr => ∃ (n nu nl : Nat) (U L : Value → Value), n ≤ es.length ∧ iv = .int .i64 n ∧ nu ≤ 100 * n ∧ nl ≤ 100 * n ∧ Hid (DoneV es n (-100) U) ∧ Hid (DoneH es n (-100) L) ∧ FB w w.heap.size (w.heap.size + 1) (w.heap.size + 1 + 1) (w1.heap.size + 1 + 1) (w1.heap.size + 1 + 1 + 1) g w1.heap.size (w1.heap.size + 1) G d (.slice A es.length c) es U L nu nl wr) (fun iv _ => es.length - (intOf iv).toNat)
  case atStart => exact ⟨0, 0, 0, _, _, by omega, rfl, by omega, by omega, HD1, HD2, HF9⟩
  case round =>
    obtain ⟨n, nu, nl, U, L, hn, rfl, hnu, hnl, HV, HH, F⟩ := hrel
    clear HF9 HD1 HD2
    by_cases hlt : n < es.length
    · obtain ⟨ge, x0, y0, x1, y1, hA, hr, hge, c0, c1, c2, c3⟩ := F.fel.elem hlt
      have hsx := HSM.out _ (List.mem_of_getElem? hr)
      unfold smallE at hsx
      dsimp only at hsx
      have HE := Lib.hid hr
      obtain ⟨lo, hlo⟩ : ∃ lo, min y0 y1 = lo := ⟨_, rfl⟩
      obtain ⟨hi, hhi⟩ : ∃ hi, max y0 y1 = hi := ⟨_, rfl⟩
      obtain ⟨lx, hlx⟩ : ∃ lx, min x0 x1 = lx := ⟨_, rfl⟩
      obtain ⟨hx, hhx⟩ : ∃ hx, max x0 x1 = hx := ⟨_, rfl⟩
      have hb1 : lo ≤ hi ∧ -40 ≤ lo ∧ hi ≤ 40 := by omega
      have hb2 : lx ≤ hx ∧ -40 ≤ lx ∧ hx ≤ 40 := by omega
      have en := Go.IntWalk.i64_in ((n : Int) + 1) (by omega)
      have HLO := Lib.hid (And.intro (And.intro hlo hhi) (And.intro hlx hhx))
      have KE := Lib.hid (Bk.new wr 48 #[.int .i64 x0, .int .i64 y0, .int .i64 x1, .int .i64 y1])
      have HF1 := Lib.hid (F.on ((Below.refl wr.heap.size wr).alloc (Nat.le_refl _) (.cells #[.int .i64 x0, .int .i64 y0, .int .i64 x1, .int .i64 y1] 48)))
      clear hr F
      subst hA
      go_wp2
      obtain ⟨eb, heb⟩ : ∃ eb, eb = wr.heap.size := ⟨_, rfl⟩
      rw [← heb] at KE ⊢
      have HEB := Lib.hid heb
      clear heb
      go_loopw [12] (fun yv wx => ∃ (y : Int) (nu' : Nat) (U' : Value → Value), yv = .int .i64 y ∧ lo ≤ y ∧ y ≤ hi ∧ (nu' : Int) ≤ 100 * n + (y + 40) ∧ Hid (DoneV es n y U') ∧ Hid (Bk wx eb 48 #[.int .i64 x0, .int .i64 y0, .int .i64 x1, .int .i64 y1]) ∧ Hid (FB w w.heap.size (w.heap.size + 1) (w.heap.size + 1 + 1) (w1.heap.size + 1 + 1) (w1.heap.size + 1 + 1 + 1) g w1.heap.size (w1.heap.size + 1) G d (.slice (some ⟨ge, 0, none⟩) es.length c) es U' L nu' nl wx)) (fun yv _ => (hi - intOf yv).toNat)
      case atStart => exact ⟨lo, nu, U, rfl, by omega, by omega, by omega, Lib.hid (doneV_start HV.out HE.out (by have := HLO.out; dsimp only; omega)), KE, HF1⟩
      case round =>
        obtain ⟨y, nu', U', rfl, hy0, hy1, hnu2, HD, HK, HF⟩ := hrel
        clear HF1 KE
        obtain ⟨p0, p1, p2, p3⟩ := box4 HK.out
        have o0 := HF.out.fu.cell 0
        simp only [List.getElem?_toArray, List.getElem?_cons_zero] at o0
        by_cases hlt2 : y < hi
        · have ey := Go.IntWalk.i64_in (y + 1) (by omega)
          obtain ⟨kl, hkl⟩ := key_pt x0 y (wf_small (by omega)) (wf_small (by omega))
          have HKL := Lib.hid hkl
          have hbd : nu' < maxLen := by unfold maxLen; omega
          have HM := Lib.hid HF.out.fmu
          clear hkl
          go_wp2_with (at_mapUpdate; refine wpList_mapUpdate_MV rfl _ _ _ 91 rfl 93 48 zeroEdV keyedPt Tryz.underlying91 w1.heap.size nu' U' rfl HM.out hbd _ (.agg #[.int .i64 x0, .int .i64 y0, .int .i64 x1, .int .i64 y1]) kl rfl rfl HKL.out ?_; intro w9 hm9 hg9; have F9 := Lib.hid (HF.out.putU hm9 hg9); have B9 := Lib.hid (only_bk hg9 HK.out (bk_map HK.out HM.out.isMap)); clear hm9 hg9)
          exact ⟨⟨y + 1, nu' + 1, _, rfl, by omega, by omega, by omega, Lib.hid (doneV_step HD.out HE.out (by have := HLO.out; dsimp only; omega) (by have := HLO.out; dsimp only; omega)), B9, F9⟩, by simp [intOf]; omega⟩
        · have HV2 := Lib.hid (doneV_next HD.out HE.out (by have := HLO.out; dsimp only; omega) HSM.out)
          have HF2 := HF
          have HK2 := HK
          clear HD HF HK
          go_wp2
          go_loopw [13] (fun yv wx => ∃ (x : Int) (nl' : Nat) (L' : Value → Value), yv = .int .i64 x ∧ lx ≤ x ∧ x ≤ hx ∧ (nl' : Int) ≤ 100 * n + (x + 40) ∧ Hid (DoneH es n x L') ∧ Hid (Bk wx eb 48 #[.int .i64 x0, .int .i64 y0, .int .i64 x1, .int .i64 y1]) ∧ Hid (FB w w.heap.size (w.heap.size + 1) (w.heap.size + 1 + 1) (w1.heap.size + 1 + 1) (w1.heap.size + 1 + 1 + 1) g w1.heap.size (w1.heap.size + 1) G d (.slice (some ⟨ge, 0, none⟩) es.length c) es U' L' nu' nl' wx)) (fun yv _ => (hx - intOf yv).toNat)
          case atStart => exact ⟨lx, nl, L, rfl, by omega, by omega, by omega, Lib.hid (doneH_start HH.out HE.out (by have := HLO.out; dsimp only; omega)), HK2, HF2⟩
          case round =>
            obtain ⟨x, nl', L', rfl, hy0, hy1, hnu2, HD, HK, HF⟩ := hrel
            clear HF2 HK2
            obtain ⟨p0, p1, p2, p3⟩ := box4 HK.out
            have o0 := HF.out.fv.cell 0
            simp only [List.getElem?_toArray, List.getElem?_cons_zero] at o0
            by_cases hlt2 : x < hx
            · have ey := Go.IntWalk.i64_in (x + 1) (by omega)
              obtain ⟨kl, hkl⟩ := key_pt x y0 (wf_small (by omega)) (wf_small (by omega))
              have HKL := Lib.hid hkl
              have hbd : nl' < maxLen := by unfold maxLen; omega
              have HM := Lib.hid HF.out.fml
              clear hkl
              go_wp2_with (at_mapUpdate; refine wpList_mapUpdate_MV rfl _ _ _ 91 rfl 93 48 zeroEdV keyedPt Tryz.underlying91 (w1.heap.size + 1) nl' L' rfl HM.out hbd _ (.agg #[.int .i64 x0, .int .i64 y0, .int .i64 x1, .int .i64 y1]) kl rfl rfl HKL.out ?_; intro w9 hm9 hg9; have F9 := Lib.hid (HF.out.putL hm9 hg9); have B9 := Lib.hid (only_bk hg9 HK.out (bk_map HK.out HM.out.isMap)); clear hm9 hg9)
              exact ⟨⟨x + 1, nl' + 1, _, rfl, by omega, by omega, by omega, Lib.hid (doneH_step HD.out HE.out (by have := HLO.out; dsimp only; omega) (by have := HLO.out; dsimp only; omega)), B9, F9⟩, by simp [intOf]; omega⟩
            · have HH2 := Lib.hid (doneH_next HD.out HE.out (by have := HLO.out; dsimp only; omega) HSM.out)
              go_wp2
              exact ⟨⟨n + 1, nu', nl', U', L', by omega, by go_num, by omega, by omega, HV2, HH2, HF.out⟩, by simp [intOf]; omega⟩
    · obtain rfl : n = es.length := by omega
      have HMU := doneV_all HEO.out HV.out
      have HML := doneH_all HEO.out HH.out
      obtain ⟨wo, hwo⟩ : ∃ wo, wo = wr := ⟨_, rfl⟩
      subst hwo
      have S0 := FS.start F rfl rfl rfl rfl rfl rfl rfl rfl
      have HR1 := Lib.hid (show ∀ (W : World) (lb n : Nat) (v : Value) (l : List EP), FS w (fnOf w.heap.size (w.heap.size + 1) (w.heap.size + 1 + 1) (w1.heap.size + 1 + 1) (w1.heap.size + 1 + 1 + 1) g w1.heap.size (w1.heap.size + 1) wo.heap.size) G d U L nu nl lb ((n : Int) - 40) v l l W → n < 80 → l.length ≤ 50000 → Calls Tryz.prog 55 #[.func (.func 56) #[] #[.pointer (some ⟨wo.heap.size + 1 + 1 + 1 + 1 + 1, 0, none⟩), .pointer (some ⟨w.heap.size, 0, none⟩), .pointer (some ⟨lb, 0, none⟩)], .func (.func 58) #[] #[.pointer (some ⟨wo.heap.size + 1 + 1 + 1 + 1 + 1 + 1, 0, none⟩), .pointer (some ⟨wo.heap.size + 1 + 1 + 1 + 1, 0, none⟩), .pointer (some ⟨w1.heap.size + 1 + 1, 0, none⟩), .pointer (some ⟨lb, 0, none⟩)]] W fun e w' => e = .returned (.tuple #[]) ∧ ∃ v', FS w (fnOf w.heap.size (w.heap.size + 1) (w.heap.size + 1 + 1) (w1.heap.size + 1 + 1) (w1.heap.size + 1 + 1 + 1) g w1.heap.size (w1.heap.size + 1) wo.heap.size) G d U L nu nl lb ((n : Int) - 40) v' (addAll l (linesP G false ((n : Int) - 40) d)) (addAll l (linesP G false ((n : Int) - 40) d)) w' from fun W lb n v l hS hn hl => krunsH_any w W (fnOf w.heap.size (w.heap.size + 1) (w.heap.size + 1 + 1) (w1.heap.size + 1 + 1) (w1.heap.size + 1 + 1 + 1) g w1.heap.size (w1.heap.size + 1) wo.heap.size) G d U L nu nl lb ((n : Int) - 40) v l hS HMU (by omega) hl)
      have HR2 := Lib.hid (show ∀ (W : World) (lb n : Nat) (v : Value) (l : List EP), FS w (fnOf w.heap.size (w.heap.size + 1) (w.heap.size + 1 + 1) (w1.heap.size + 1 + 1) (w1.heap.size + 1 + 1 + 1) g w1.heap.size (w1.heap.size + 1) wo.heap.size) G d U L nu nl lb ((n : Int) - 40) v l l W → n < 80 → l.length ≤ 50000 → Calls Tryz.prog 55 #[.func (.func 59) #[] #[.pointer (some ⟨wo.heap.size + 1 + 1 + 1 + 1 + 1, 0, none⟩), .pointer (some ⟨w.heap.size, 0, none⟩), .pointer (some ⟨lb, 0, none⟩)], .func (.func 60) #[] #[.pointer (some ⟨wo.heap.size + 1 + 1 + 1 + 1 + 1 + 1, 0, none⟩), .pointer (some ⟨wo.heap.size + 1 + 1 + 1 + 1, 0, none⟩), .pointer (some ⟨w1.heap.size + 1 + 1 + 1, 0, none⟩), .pointer (some ⟨lb, 0, none⟩)]] W fun e w' => e = .returned (.tuple #[]) ∧ ∃ v', FS w (fnOf w.heap.size (w.heap.size + 1) (w.heap.size + 1 + 1) (w1.heap.size + 1 + 1) (w1.heap.size + 1 + 1 + 1) g w1.heap.size (w1.heap.size + 1) wo.heap.size) G d U L nu nl lb ((n : Int) - 40) v' (addAll l (linesP G true ((n : Int) - 40) d)) (addAll l (linesP G true ((n : Int) - 40) d)) w' from fun W lb n v l hS hn hl => krunsV_any w W (fnOf w.heap.size (w.heap.size + 1) (w.heap.size + 1 + 1) (w1.heap.size + 1 + 1) (w1.heap.size + 1 + 1 + 1) g w1.heap.size (w1.heap.size + 1) wo.heap.size) G d U L nu nl lb ((n : Int) - 40) v l hS HML (by omega) hl)
      have hbW := F.fb.size
      have HS0 := Lib.hid S0
      clear F HV HH HSM HEO HMU HML S0
      go_wp2
      go_loopw [19] (fun pv wx => ∃ (n lb : Nat) (v : Value), n ≤ 80 ∧ pv = .pointer (some ⟨lb, 0, none⟩) ∧ FS w (fnOf w.heap.size (w.heap.size + 1) (w.heap.size + 1 + 1) (w1.heap.size + 1 + 1) (w1.heap.size + 1 + 1 + 1) g w1.heap.size (w1.heap.size + 1) wo.heap.size) G d U L nu nl lb ((n : Int) - 40) v (addAll [] (faceTo G d n)) (addAll [] (faceTo G d n)) wx) (fun pv wx => linesLeft pv wx)
      case atStart => exact ⟨0, _, _, by omega, rfl, HS0.out⟩
      case round =>
        obtain ⟨n, lb, v, hn, rfl, S⟩ := hrel
        clear HS0
        have hlen := addAll_len (faceTo G d n) []
        have hlen2 := faceTo_len G d n
        rw [List.length_nil] at hlen
        have d0 : wr.cell? ⟨lb, 0, none⟩ = some (.int .i64 ((n : Int) - 40)) := S.z.l.cell 0
        by_cases hn8 : n < 80
        · have h1 : (n : Int) - 40 < 40 := by omega
          have en := Go.IntWalk.i64_in ((n : Int) - 40 + 1) (by omega)
          have hl2 : (linesP G false ((n : Int) - 40) d).length ≤ 80 := lineP_len G false _ d 80 (-40)
          have hl3 := addAll_len (linesP G false ((n : Int) - 40) d) (addAll [] (faceTo G d n))
          have hl4 : (addAll [] (faceTo G d n)).length ≤ 50000 := by omega
          have hl5 : (addAll (addAll [] (faceTo G d n)) (linesP G false ((n : Int) - 40) d)).length ≤ 50000 := by omega
          have hm0 := linesLeft_eq (x := (n : Int) - 40) d0
          clear hlen hlen2 hl2 hl3
          go_wp2_with (first
            | (go_at_call 55; (with_reducible refine (HR1.out _ lb n v _ S hn8 hl4).mono ?_); rintro e w5 ⟨rfl, v5, S5⟩)
            | (go_at_call 55; (with_reducible refine (HR2.out _ lb n v5 _ S5 hn8 hl5).mono ?_); rintro e w7 ⟨rfl, v7, S7⟩; have d7 : w7.cell? ⟨lb, 0, none⟩ = some (.int .i64 ((n : Int) - 40)) := S7.z.l.cell 0))
          have S8 := S7.fresh ((n : Int) - 40 + 1)
          have hm := linesLeft_eq (x := (n : Int) - 40 + 1) (S8.z.l.cell 0)
          have HW := Lib.hid (show (n : Int) - 40 + 1 = ((n + 1 : Nat) : Int) - 40 by omega)
          rw [← addAll_append, ← addAll_append, ← List.append_assoc, ← faceTo_succ] at S8
          refine ⟨⟨n + 1, _, v7, by omega, rfl, ?_⟩, ?_⟩
          · rw [HW.out] at S8 ⊢
            exact S8
          · rw [hm, hm0]
            omega
        · obtain rfl : n = 80 := by omega
          have h1 : ¬ (((80 : Nat) : Int) - 40 < 40) := by omega
          have hl9 : (addAll [] (faceTo G d 80)).length ≤ 100000 := by omega
          obtain ⟨A9, c9, rfl, -, -, -⟩ := S.row.form
          have o0 : wr.cell? ⟨wo.heap.size + 1 + 1 + 1, 0, none⟩ = some (.slice A9 (addAll [] (faceTo G d 80)).length c9) := S.o.cell 0
          have HS := Lib.hid S
          clear S hlen hlen2
          go_wp2_with (go_at_call 61; (with_reducible refine (sortP_any _ _ _ w.heap.size HS.out.row hl9).mono ?_); rintro e w9 ⟨rfl, hR, hgr⟩; have o9 : w9.cell? ⟨wo.heap.size + 1 + 1 + 1, 0, none⟩ = some (.slice A9 (addAll [] (faceTo G d 80)).length c9) := (HS.out.o.grown hgr (bk_not HS.out.row HS.out.o (by decide))).cell 0; have hb9 := HS.out.bel.grown hgr HS.out.bel.size (fun q hq => (World.ownsRow.lt HS.out.row q hq).1))
          go_ret
          exact ⟨_, rfl, hR, hb9⟩


end Go.Proofs.YtjiljodchebniaaGreat
