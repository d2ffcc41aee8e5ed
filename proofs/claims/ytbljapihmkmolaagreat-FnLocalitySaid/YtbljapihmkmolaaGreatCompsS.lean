/- What memory holds: lists of sets that lie between two blocks; a set copied by append. No conditions. Contracts: the reference's l19Components and SmallestComponent. No conditions. Contract: the reference's SmallestComponent. No conditions. -/
import Derived.Test.YtbljapihmkmolaaGreatCombA
import Derived.Test.YtbljapihmkmolaaGreatMemA
import Derived.Maps.AppendAt
import Derived.Test.YtbljapihmkmolaaGreatVisit
import Derived.Test.YtbljapihmkmolaaGreatComps
import Derived.Test.YtbljapihmkmolaaGreatSets
import Derived.StillTailTactics
import Derived.Test.YtbljapihmkmolaaGreatWidthA
namespace Go.Proofs.YtbljapihmkmolaaGreat
open Go.RowKit

/-- The slice value v holds sets of flags that lie in blocks from N on, below M. -/
def GSM (w : World) (B N M : Nat) (v : Value) (Gs : List Gr) : Prop := ∃ vs, VL w B 135 v vs ∧ vs.length = Gs.length ∧ ∀ (k : Nat) (u : Value) (G : Gr), vs[k]? = some u → Gs[k]? = some G → ∃ g c, u = .slice (some ⟨g, 0, none⟩) 6400 c ∧ N ≤ g ∧ g < M ∧ GB w g 4 G
section
variable {w w' : World} {B N M : Nat} {v : Value} {Gs : List Gr}
theorem GSM.on (h : GSM w B N M v Gs) (hb : Below w.heap.size w w') : GSM w' B N M v Gs := by
  obtain ⟨vs, h1, h2, h3⟩ := h
  refine ⟨vs, h1.on hb, h2, fun k u G hu hG => ?_⟩
  obtain ⟨g, c, e, a, b, hg⟩ := h3 k u G hu hG
  exact ⟨g, c, e, a, b, hg.on hb⟩
theorem GSM.alloc (h : GSM w B N M v Gs) (o : Obj) : GSM (w.alloc o) B N M v Gs := h.on ((Below.refl _ _).alloc (Nat.le_refl _) o)
theorem GSM.drew (h : GSM w B N M v Gs) : GSM w.drew B N M v Gs := h.on (Below.refl _ _).drew
theorem GSM.more {M' : Nat} (h : GSM w B N M v Gs) (hM : M ≤ M') : GSM w B N M' v Gs := by
  obtain ⟨vs, h1, h2, h3⟩ := h
  refine ⟨vs, h1, h2, fun k u G hu hG => ?_⟩
  obtain ⟨g, c, e, a, b, hg⟩ := h3 k u G hu hG
  exact ⟨g, c, e, a, by omega, hg⟩
/-- A store into another set. -/
theorem GSM.store {p : Nat} {H : Gr} (h : GSM w B N M v Gs) (hp : GB w p 4 H) (hout : p < N ∨ M ≤ p) (i : Nat) (x : Value) : GSM (w.setCell ⟨p, i, none⟩ x) B N M v Gs := by
  obtain ⟨vs, h1, h2, h3⟩ := h
  obtain ⟨cs, hb, _⟩ := hp
  refine ⟨vs, own_other h1 (p := ⟨p, i, none⟩) (fun e => hb.apart' h1 (by decide) e.symm) x, h2, fun k u G hu hG => ?_⟩
  obtain ⟨g, c, e, a, b, hg⟩ := h3 k u G hu hG
  exact ⟨g, c, e, a, b, hg.other (p := ⟨p, i, none⟩) (show g ≠ p by omega) x⟩
theorem GSM.lit0 (w : World) {B N M : Nat} (hB : B ≤ w.heap.size) : GSM (w.alloc (.cells #[] 135)) B N M (.slice (some ⟨w.heap.size, 0, none⟩) 0 0) [] := ⟨[], World.ownsRow_lit w #[] 0 hB (by simp [maxLen]) rfl, rfl, fun k u rs hu => by simp at hu⟩
theorem GSM.list (h : GSM w B N M v Gs) (hN : B ≤ N) : GSL w B v Gs := by
  obtain ⟨vs, h1, h2, h3⟩ := h
  refine ⟨vs, h1, h2, fun k u G hu hG => ?_⟩
  obtain ⟨g, c, e, a, b, hg⟩ := h3 k u G hu hG
  exact ⟨g, c, e, Nat.le_trans hN a, hg⟩
theorem GSM.form (h : GSM w B N M v Gs) : ∃ A cap, v = .slice A Gs.length cap ∧ Gs.length ≤ cap ∧ cap ≤ maxLen := by
  obtain ⟨vs, h1, h2, h3⟩ := h
  obtain ⟨A, cap, hv, a1, a2, _⟩ := h1.form
  rw [h2] at hv a1
  exact ⟨A, cap, hv, a1, a2⟩
end
/-- 'out = append(out, part)' on such a list. -/
theorem wpList_append_GSM {w : World} {ops : Array Oper} {rest : List Oper} {o : Oper} {a : Act} {Q : Exit → Act → World → Prop} (hgd : o.guard = none) (s x : Operand)
    (ho : o.op = .call { callee := .builtin .append, args := #[s, x], argTypes := #[140, 140] })
    (B N M : Nat) (v : Value) (Gs : List Gr) (hs : a.eval s = v) (hown : GSM w B N M v Gs) (g c : Nat) (G : Gr) (hN : N ≤ g) (hM : g < M) (hu : GB w g 4 G) (hx : a.eval x = .slice (some ⟨w.heap.size, 0, none⟩) 1 1) (hlen : Gs.length ≤ 1000000) (hB : B ≤ w.heap.size)
    (h : ∀ v' w', GSM w' B N M v' (Gs ++ [G]) → (∀ (p : Nat) (H : Gr), GB w p 4 H → GB w' p 4 H) → Below B w w' → wpList Tryz.prog ops Q rest (a.put o.dst v') w') :
    wpList Tryz.prog ops Q (o :: rest) a (w.alloc (.cells #[.slice (some ⟨g, 0, none⟩) 6400 c] 135)) := by
  obtain ⟨vs, h1, h2, h3⟩ := hown
  refine wpList_append_G hgd s x 135 140 1 24 _ infoBools Tryz.underlying140 rfl (by decide) (by decide) ho B v vs.length vs hs h1 [.slice (some ⟨g, 0, none⟩) 6400 c] rfl (by simp [Value.oneCell']) hx (by omega) hB ?_
  intro v' w' k1 k2 k3
  have hk : ∀ (p : Nat) (H : Gr), GB w p 4 H → GB w' p 4 H := fun p H hp => by
    obtain ⟨cs, hb, hr⟩ := hp
    exact ⟨cs, hb.grown k2 (hb.apart' h1 (by decide)), hr⟩
  refine h v' w' ⟨vs ++ [.slice (some ⟨g, 0, none⟩) 6400 c], by unfold VL; rw [List.length_append]; exact k1, by simp [h2], fun k y H hy hq => ?_⟩ hk k3
  by_cases hkl : k < vs.length
  · rw [List.getElem?_append_left hkl] at hy
    rw [List.getElem?_append_left (by omega)] at hq
    obtain ⟨g', c', e, e1, e2, e3⟩ := h3 k y H hy hq
    exact ⟨g', c', e, e1, e2, hk _ _ e3⟩
  · have hke : k = vs.length := by have := (List.getElem?_eq_some_iff.1 hy).1; simp at this; omega
    subst hke
    rw [List.getElem?_append_right (Nat.le_refl _), Nat.sub_self] at hy
    rw [List.getElem?_append_right (by omega), h2, Nat.sub_self] at hq
    simp at hy hq
    subst hy hq
    exact ⟨g, c, rfl, hN, hM, hk _ _ hu⟩

theorem gs_of_own {w : World} {B : Nat} {v : Value} {G : Gr} (h : w.ownsRow B 4 1 v 6400 ((List.range 6400).map fun i => .bool (G i))) : GS w B v G := by
  rcases h.2 with ⟨_, h0⟩ | ⟨g, cap, cur, hv, hB, hh, hn, hcm, hcs, htake⟩
  · exact absurd h0 (by omega)
  · refine ⟨g, cap, hv, hB, cur, hh, ⟨by omega, fun hne => absurd rfl hne⟩, fun i hi => ?_⟩
    have e : (cur.toList.take (6400 * 1))[i]? = some (.bool (G i)) := by rw [htake]; simp [hi]
    rw [List.getElem?_take, if_pos (by omega)] at e
    simpa using e
/-- 'left := append([]bool{}, b...)'. -/
theorem wpList_append_BB {w : World} {ops : Array Oper} {rest : List Oper} {o : Oper} {a : Act} {Q : Exit → Act → World → Prop} (hgd : o.guard = none) (s x : Operand)
    (ho : o.op = .call { callee := .builtin .append, args := #[s, x], argTypes := #[135, 135] })
    (B : Nat) (v : Value) (hs : a.eval s = v) (hown : w.ownsRow B 4 1 v 0 []) (g c : Nat) (G : Gr) (hG : GB w g 4 G) (hx : a.eval x = .slice (some ⟨g, 0, none⟩) 6400 c) (hB : B ≤ w.heap.size)
    (h : ∀ v' w', GS w' B v' G → w.grownBy w' v.ownBlock → Below B w w' → wpList Tryz.prog ops Q rest (a.put o.dst v') w') :
    wpList Tryz.prog ops Q (o :: rest) a w := by
  obtain ⟨i, hi, hz, hsz, hby⟩ := info_parts infoBool
  refine wpList_append_own_at _ hgd s x 135 ho B 4 i _ 1 1 Tryz.underlying135 hi hz hsz hby rfl (by decide) v 0 [] hs hown ⟨g, 0, none⟩ 6400 c
    ((List.range 6400).map fun i => .bool (G i)) hx (by simp) ?_ ?_ (by simp [maxLen]) (by omega) hB ?_
  · intro j u hu
    have hj : j < 6400 := by
      have := (List.getElem?_eq_some_iff.1 hu).1
      simpa using this
    rw [Addr.add_lit, Nat.zero_add, hG.cell hj, ← hu]
    simp [hj]
  · intro u hu
    obtain ⟨i, _, rfl⟩ := List.mem_map.1 hu
    rfl
  · intro v' w' h1 h2 _ _
    exact h v' w' (gs_of_own (by simpa using h1)) h2 (below_own hown h2 hB)

end Go.Proofs.YtbljapihmkmolaaGreat

namespace Go.Proofs.YtbljapihmkmolaaGreat
open Go.RowKit

theorem own_low2 {w w' : World} {B N n size : Nat} {e : TypeId} {v : Value} {xs : List Value} (h : w.ownsRow B e size v n xs) (hN : ∀ g, v.ownBlock = some g → g < N) (hb : Below N w w') : w'.ownsRow B e size v n xs := by
  refine ⟨h.1, ?_⟩
  rcases h.2 with hn | ⟨g, cap, cur, rfl, h1, h2, h3⟩
  · exact .inl hn
  · exact .inr ⟨g, cap, cur, rfl, h1, (hb.block g (hN g rfl)).trans h2, h3⟩
theorem take_setL {qs : List Nat} {k j : Nat} (h : qs[k]? = some j) : setL (qs.take (k + 1)) = updG (setL (qs.take k)) j true := by
  rw [List.take_add_one, h, Option.toList, setL_snoc]
theorem take_minus {L : Gr} {qs : List Nat} {k j : Nat} (h : qs[k]? = some j) : minusG L (setL (qs.take (k + 1))) = updG (minusG L (setL (qs.take k))) j false := by
  rw [take_setL h]
  funext i
  unfold minusG updG
  by_cases e : i = j
  · simp [e]
  · simp [e]
theorem minus_nil (L : Gr) : minusG L (setL []) = L := by funext i; simp [minusG, setL]
theorem still_eq {P : Program} {f : Nat} {args : Array Value} {w : World} {v : Value} (h : Calls P f args w fun e w' => e = .returned v ∧ w = w') : Calls P f args w fun e w' => e = .returned v ∧ w' = w := h.mono fun _ _ ⟨a, b⟩ => ⟨a, b.symm⟩
theorem l17At_cell {j : Nat} (hj : j < 6400) {X Y : Int} (hX : X = ((j % 80 : Nat) : Int) - 40) (hY : Y = ((j / 80 : Nat) : Int) - 40) (w : World) : Calls Tryz.prog 158 #[.int .i64 X, .int .i64 Y] w fun e w' => e = .returned (.int .i64 (j : Int)) ∧ w' = w := by
  have h := l17At_any X Y (by omega) w
  have e : ix X Y = (j : Int) := by unfold ix; omega
  rw [e] at h
  exact still_eq h
theorem emptyG_nil : emptyG = setL [] := by funext i; simp [emptyG, setL]

set_option maxHeartbeats 12800000 in
set_option maxRecDepth 100000 in
/-- l19Components. -/
theorem comps_spec (v : Value) (G : Gr) (w : World) (hG : GS w 0 v G) : Calls Tryz.prog 109 #[v] w fun e w' => ∃ u, e = .returned u ∧ GSL w' w.heap.size u (comps G) ∧ Below w.heap.size w w' := by
  obtain ⟨gv, cv, rfl, -, hg⟩ := hG
  have e1 : (w.alloc (.cells #[] 135)).heap.size = w.heap.size + 1 := by simp
  have ow := (World.ownsRow_lit w #[] 0 (Nat.le_refl w.heap.size) (by simp [maxLen]) rfl : (w.alloc (.cells #[] 135)).ownsRow w.heap.size 135 1 _ 0 [])
  have hr := World.ownsRow.alloc ow (.cells #[] 4)
  have r2 : ((w.alloc (.cells #[] 135)).alloc (.cells #[] 4)).ownsRow (w.heap.size + 1) 4 1 (.slice (some ⟨w.heap.size + 1, 0, none⟩) 0 0) 0 [] := by
    have := (World.ownsRow_lit (w.alloc (.cells #[] 135)) #[] 0 (Nat.le_refl _) (by simp [maxLen]) rfl : ((w.alloc (.cells #[] 135)).alloc (.cells #[] 4)).ownsRow (w.alloc (.cells #[] 135)).heap.size 4 1 _ 0 [])
    rwa [e1] at this
  have hg2 := (hg.alloc (.cells #[] 135)).alloc (.cells #[] 4)
  have hb2 : Below w.heap.size w ((w.alloc (.cells #[] 135)).alloc (.cells #[] 4)) := ((Below.refl _ _).alloc (Nat.le_refl _) _).alloc (by simp) _
  have hs2 : w.heap.size + 1 ≤ ((w.alloc (.cells #[] 135)).alloc (.cells #[] 4)).heap.size := by simp
  clear ow hg
  go_enter Tryz.func109, Tryz.ntmps109
  go_wp2_with (at_builtin; refine wpList_append_BB rfl (.tmp 11) (.tmp 12) rfl (w.heap.size + 1) _ rfl r2 gv cv G hg2 rfl hs2 ?_; intro v3 w3 hL3 hgr3 hb3)
  obtain ⟨lb, cl, rfl, hlb, hL3⟩ := hL3
  have hlw := hL3.lt
  have hlb' : w.heap.size ≤ lb := by omega
  have ho3 : GSM w3 w.heap.size w3.heap.size w3.heap.size (.slice (some ⟨w.heap.size, 0, none⟩) 0 0) [] := ⟨[], own_low2 hr (fun g hq => by simp [Value.ownBlock] at hq; omega) hb3, rfl, fun k u rs hu => by simp at hu⟩
  have ht3 := hb2.trans (hb3.mono (by omega))
  have Hc0 := Lib.hid (show comps G = [] ++ compsF G (0 * 80) from by rw [Nat.zero_mul]; rfl)
  have hCl := comps_length G
  have hs3 := ht3.size
  clear hr r2 hg2 hb2 hs2 hgr3 hb3 e1
  go_wp2
  go_loopw [3, 5] (fun ov yv wr => ∃ (y : Int) (L : Gr) (done : List Gr), -40 ≤ y ∧ y ≤ 40 ∧ yv = .int .i64 y ∧ Hid (comps G = done ++ compsF L (ix (-40) y).toNat) ∧ GSM wr w.heap.size w3.heap.size wr.heap.size ov done ∧ GB wr lb 4 L ∧ Below w.heap.size w wr ∧ w3.heap.size ≤ wr.heap.size) (fun _ yv _ => (40 - intOf yv).toNat)
  case atStart => exact ⟨-40, G, [], by omega, by omega, rfl, Hc0, ho3, hL3, ht3, Nat.le_refl _⟩
  case round =>
    obtain ⟨y, L0, done0, hy1, hy2, rfl, HC0, hO, hL, hb, hsz⟩ := hrel
    clear ho3 hL3 ht3 hs3 Hc0
    by_cases hlty : y < 40
    · go_wp2
      go_loopw [3, 6] (fun ov xv wr => ∃ (x : Int) (L : Gr) (done : List Gr), -40 ≤ x ∧ x ≤ 40 ∧ xv = .int .i64 x ∧ Hid (comps G = done ++ compsF L (ix x y).toNat) ∧ GSM wr w.heap.size w3.heap.size wr.heap.size ov done ∧ GB wr lb 4 L ∧ Below w.heap.size w wr ∧ w3.heap.size ≤ wr.heap.size) (fun _ xv _ => (40 - intOf xv).toNat)
      case atStart => exact ⟨-40, L0, done0, by omega, by omega, rfl, HC0, hO, hL, hb, hsz⟩
      case round =>
        obtain ⟨x, L, done, hx1, hx2, rfl, HC, hO1, hL1, hb1, hsz1⟩ := hrel
        clear hO hL hb hsz HC0
        by_cases hltx : x < 40
        · have hon : onC x y = true := (onC_iff x y).2 (by omega)
          have hi6 := (ix_nat hon).2
          rw [← (ix_nat hon).1] at hi6
          have hi4 : 0 ≤ ix x y ∧ ix x y < 6400 := by unfold ix; omega
          have Hnx := Lib.hid (show (ix (x + 1) y).toNat = (ix x y).toNat + 1 by unfold ix; omega)
          have cs := hL1.ix_ hon
          have Hon := Lib.hid hon
          clear hon
          by_cases hin : L (ix x y).toNat = true
          · rw [hin] at cs
            have HC2 := Lib.hid (HC.out.trans (congrArg _ (compsF_yes hi6 hin)))
            clear hin HC
            go_wp2_with fail
            refine (l17At_any x y (by omega) _).mono ?_
            rintro e w4 ⟨rfl, rfl⟩
            go_wp2_with fail
            refine (visit_any lb cl L x y _ hL1 Hon.out).mono ?_
            rintro e w4 ⟨u, qs, rfl, hQ, hset, hq6, hb4⟩
            have Hset := Lib.hid hset
            obtain ⟨Ao, co, hvo, -, -⟩ := hO1.form
            subst hvo
            have Hq6 := Lib.hid hq6
            obtain ⟨A, c, hva, hc, hm, -⟩ := hQ.form
            rw [List.length_map] at hva hc
            subst hva
            have hmk := run_make_6400
            have hO5 := ((hO1.on hb4).more hb4.size).alloc (.cells noCells 4)
            have hL5 := (hL1.on hb4).alloc (.cells noCells 4)
            have hQ5 := (hQ.less (Nat.zero_le _)).alloc (.cells noCells 4)
            have hb14 := hb1.trans (hb4.mono hb1.size)
            have hb5 := hb14.alloc hb14.size (.cells noCells 4)
            have hP5 := (GB.made w4 4).cong emptyG_nil
            have hL5' := hL5.cong (minus_nil L).symm
            have hsz4 : w3.heap.size ≤ w4.heap.size := Nat.le_trans hsz1 hb4.size
            have hwp := hb14.size
            clear hO1 hL1 hb1 hb4 hQ hL5 hb14 hset hq6 hsz1 cs
            go_wp2
            clear hmk
            go_loopw [9] (fun iv wx => ∃ k : Nat, k ≤ qs.length ∧ iv = .int .i64 k ∧ GB wx w4.heap.size 4 (setL (qs.take k)) ∧ GB wx lb 4 (minusG L (setL (qs.take k))) ∧ GSM wx w.heap.size w3.heap.size w4.heap.size (.slice Ao done.length co) done ∧ PL wx 175 0 (.slice A qs.length c) (qs.map pairI) ∧ Below w.heap.size w wx) (fun iv _ => qs.length - (intOf iv).toNat)
            case atStart => exact ⟨0, Nat.zero_le _, rfl, hP5, hL5', hO5, hQ5, hb5⟩
            case round =>
              obtain ⟨k, hk, rfl, hP, hL, hO, hQ, hb⟩ := hrel
              clear hP5 hL5' hO5 hQ5 hb5
              by_cases hltk : k < qs.length
              · obtain ⟨j, hj⟩ : ∃ j, qs[k]? = some j := ⟨_, List.getElem?_eq_getElem hltk⟩
                have hj6 : j < 6400 := Hq6.out j (List.mem_of_getElem? hj)
                have hjm : (qs.map pairI)[k]? = some (pairI j) := by rw [List.getElem?_map, hj]; rfl
                obtain ⟨gq, rfl, hgq, f0, f1⟩ := hQ.elem hjm
                obtain ⟨X, hX⟩ : ∃ X : Int, X = ((j % 80 : Nat) : Int) - 40 := ⟨_, rfl⟩
                obtain ⟨Y, hY⟩ : ∃ Y : Int, Y = ((j / 80 : Nat) : Int) - 40 := ⟨_, rfl⟩
                have hcall := l17At_cell hj6 hX hY
                unfold pairI at f0 f1
                dsimp only at f0 f1
                rw [← hX] at f0
                rw [← hY] at f1
                have hne1 : some w4.heap.size ≠ (Value.slice (some ⟨gq, 0, none⟩) qs.length c).ownBlock := by obtain ⟨cs, hk, _⟩ := hP; exact hk.apart' hQ (by decide)
                have hne2 : some lb ≠ (Value.slice (some ⟨gq, 0, none⟩) qs.length c).ownBlock := by obtain ⟨cs, hk, _⟩ := hL; exact hk.apart' hQ (by decide)
                have hji : (j : Int) < 6400 := by omega
                have hkk : k < 9223372036854775807 := by simp only [maxLen] at hm; omega
                have hzp := hP.frozen j
                have hcp := hP.cell hj6
                have hP6 := ((hP.store hj6 true).cong (take_setL hj).symm).drew
                have hL6 := (hL.other (p := ⟨w4.heap.size, j, none⟩) (show lb ≠ w4.heap.size by omega) (.bool true)).drew
                have hO6 := (hO.store hP (.inr (Nat.le_refl _)) j (.bool true)).drew
                have hQ6 := (hQ.other (p := ⟨w4.heap.size, j, none⟩) hne1 (.bool true)).drewN 1
                have hb6 := (hb.setCell (p := ⟨w4.heap.size, j, none⟩) (by exact hwp) (.bool true)).drew
                change PL (wr.setCell ⟨w4.heap.size, j, none⟩ (.bool true)).drew _ _ _ _ at hQ6
                clear hP hL hO hQ hb
                have HX := Lib.hid hX
                have HY := Lib.hid hY
                clear hX hY
                go_wp2
                refine wp_region_still_tail 13 (by kernel_rfl) (by kernel_rfl) ?_
                simp only [List.take_succ_cons, List.take_zero, List.drop_succ_cons, List.drop_zero]
                iterate 11 still_step
                still_call (hcall _)
                still_step
                refine wpStill_nil ?_
                change wpList _ _ _ _ _ wr.drew
                go_wp2
                revert hP6 hL6 hO6 hQ6 hb6
                generalize (wr.setCell ⟨w4.heap.size, j, none⟩ (.bool true)).drew = wy
                intro hP hL hO hb hQ
                clear f0 f1 hzp hcp
                obtain ⟨_, hgq', _, f0, f1⟩ := hQ.elem hjm
                cases hgq'
                unfold pairI at f0 f1
                dsimp only at f0 f1
                rw [← HX.out] at f0
                rw [← HY.out] at f1
                have hzl := hL.frozen j
                have hcl := hL.cell hj6
                have hL6 := (hL.store hj6 false).cong (take_minus hj).symm
                have hP6 := hP.other (p := ⟨lb, j, none⟩) (show w4.heap.size ≠ lb by omega) (.bool false)
                have hO6 := hO.store hL (.inl hlw) j (.bool false)
                have hQ6 := hQ.other (p := ⟨lb, j, none⟩) hne2 (.bool false)
                have hb6 := hb.setCell (p := ⟨lb, j, none⟩) (by exact hlb') (.bool false)
                clear hP hL hO hQ hb hjm
                refine wp_region_still_tail 13 (by kernel_rfl) (by kernel_rfl) ?_
                simp only [List.take_succ_cons, List.take_zero, List.drop_succ_cons, List.drop_zero]
                iterate 11 still_step
                still_call (hcall _)
                still_step
                refine wpStill_nil ?_
                change wpList _ _ _ _ _ wy.drew
                go_wp2
                exact ⟨⟨k + 1, by omega, by go_num, hP6.drew, hL6.drew, hO6.drew, hQ6, hb6.drew⟩, by simp [intOf]; omega⟩
              · have hke : k = qs.length := by omega
                subst hke
                rw [List.take_length, Hset.out] at hP hL
                have hP' := hP.lt
                have hbz := hb.size
                have hdl : done.length ≤ 6400 := by have := congrArg List.length HC2.out; simp only [List.length_append, List.length_cons] at this; omega
                go_wp2_with (at_builtin; refine wpList_append_GSM rfl (.tmp 68) (.tmp 70) rfl w.heap.size w3.heap.size w4.heap.size.succ _ done rfl (hO.more (Nat.le_succ _)) w4.heap.size 6400 _ hsz4 (Nat.lt_succ_self _) hP rfl (by omega) hbz ?_; intro v' w' k1 k2 k3)
                exact ⟨⟨x + 1, _, _, by omega, by omega, by go_num, Lib.hid (by rw [Hnx.out]; exact HC2.out.trans (by simp)), k1.more (by have := k3.size; omega), k2 _ _ hL, hb.trans k3, by have := k3.size; omega⟩, by simp [intOf]; omega⟩
          · have hin' : L (ix x y).toNat = false := by simpa using hin
            rw [hin'] at cs
            have HC2 := Lib.hid (HC.out.trans (congrArg _ (compsF_no hi6 hin')))
            clear hin hin' HC
            go_wp2_with (go_at_call 158; refine (l17At_any x y (by omega) _).mono ?_; rintro e w4 ⟨rfl, rfl⟩)
            exact ⟨⟨x + 1, L, done, by omega, by omega, by go_num, Lib.hid (by rw [Hnx.out]; exact HC2.out), hO1, hL1, hb1, hsz1⟩, by simp [intOf]; omega⟩
        · have hxe : x = 40 := by omega
          subst hxe
          have e : (ix 40 y).toNat = (ix (-40) (y + 1)).toNat := by unfold ix; omega
          have HC2 := Lib.hid (show comps G = done ++ compsF L (ix (-40) (y + 1)).toNat from by rw [← e]; exact HC.out)
          clear e HC
          go_wp2
          exact ⟨⟨y + 1, L, done, by omega, by omega, by go_num, HC2, hO1, hL1, hb1, hsz1⟩, by simp [intOf]; omega⟩
    · have hye : y = 40 := by omega
      subst hye
      have hfin : comps G = done0 := by rw [HC0.out, compsF_end (by unfold ix; omega), List.append_nil]
      go_wp2
      go_ret
      exact ⟨_, rfl, hfin ▸ hO.list (by omega), hb⟩

end Go.Proofs.YtbljapihmkmolaaGreat

namespace Go.Proofs.YtbljapihmkmolaaGreat
open Go.RowKit

end Go.Proofs.YtbljapihmkmolaaGreat
