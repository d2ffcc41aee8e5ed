/- What memory holds: lists of sets that lie between two blocks; a set copied by append. No conditions. Contracts: the reference's l19Components and SmallestComponent. No conditions. Contract: the reference's SmallestComponent. No conditions. -/
import Derived.Test.YtemeegpmdhgocaaGreatCombA
import Derived.Test.YtemeegpmdhgocaaGreatMemA
import Derived.Maps.AppendAt
import Derived.Test.YtemeegpmdhgocaaGreatVisit
import Derived.Test.YtemeegpmdhgocaaGreatComps
import Derived.Test.YtemeegpmdhgocaaGreatSets
import Derived.StillTailTactics
import Derived.Test.YtemeegpmdhgocaaGreatWidthA
namespace Go.Proofs.YtemeegpmdhgocaaGreat
open Go.RowKit

/-- The slice value v holds sets of flags that lie in blocks from N on, below M. -/
def GSM (w : World) (B N M : Nat) (v : Value) (Gs : List Gr) : Prop := ∃ vs, VL w B 83 v vs ∧ vs.length = Gs.length ∧ ∀ (k : Nat) (u : Value) (G : Gr), vs[k]? = some u → Gs[k]? = some G → ∃ g c, u = .slice (some ⟨g, 0, none⟩) 6400 c ∧ N ≤ g ∧ g < M ∧ GB w g 4 G
section
variable {w w' : World} {B N M : Nat} {v : Value} {Gs : List Gr}
theorem GSM.on (h : GSM w B N M v Gs) (hb : Below w.heap.size w w') : GSM w' B N M v Gs := by
  obtain ⟨vs, h1, h2, h3⟩ := h
  refine ⟨vs, h1.on hb, h2, fun k u G hu hG => ?_⟩
  obtain ⟨g, c, e, a, b, hg⟩ := h3 k u G hu hG
  exact ⟨g, c, e, a, b, hg.on hb⟩
theorem GSM.alloc (h : GSM w B N M v Gs) (o : Obj) : GSM (w.alloc o) B N M v Gs := h.on ((Below.refl _ _).alloc (Nat.le_refl _) o)
theorem GSM.drew (h : GSM w B N M v Gs) : GSM w.drew B N M v Gs := h.on (Below.refl _ _).drew
theorem GSM.more {M' : Nat} (h : GSM w B N M v Gs) (hM : M ≤ M') : GSM w B N M' v Gs := by
  obtain ⟨vs, h1, h2, h3⟩ := h
  refine ⟨vs, h1, h2, fun k u G hu hG => ?_⟩
  obtain ⟨g, c, e, a, b, hg⟩ := h3 k u G hu hG
  exact ⟨g, c, e, a, by omega, hg⟩
/-- A store into another set. -/
theorem GSM.store {p : Nat} {H : Gr} (h : GSM w B N M v Gs) (hp : GB w p 4 H) (hout : p < N ∨ M ≤ p) (i : Nat) (x : Value) : GSM (w.setCell ⟨p, i, none⟩ x) B N M v Gs := by
  obtain ⟨vs, h1, h2, h3⟩ := h
  obtain ⟨cs, hb, _⟩ := hp
  refine ⟨vs, own_other h1 (p := ⟨p, i, none⟩) (fun e => hb.apart' h1 (by decide) e.symm) x, h2, fun k u G hu hG => ?_⟩
  obtain ⟨g, c, e, a, b, hg⟩ := h3 k u G hu hG
  exact ⟨g, c, e, a, b, hg.other (p := ⟨p, i, none⟩) (show g ≠ p by omega) x⟩
theorem GSM.lit0 (w : World) {B N M : Nat} (hB : B ≤ w.heap.size) : GSM (w.alloc (.cells #[] 83)) B N M (.slice (some ⟨w.heap.size, 0, none⟩) 0 0) [] := ⟨[], World.ownsRow_lit w #[] 0 hB (by simp [maxLen]) rfl, rfl, fun k u rs hu => by simp at hu⟩
theorem GSM.list (h : GSM w B N M v Gs) (hN : B ≤ N) : GSL w B v Gs := by
  obtain ⟨vs, h1, h2, h3⟩ := h
  refine ⟨vs, h1, h2, fun k u G hu hG => ?_⟩
  obtain ⟨g, c, e, a, b, hg⟩ := h3 k u G hu hG
  exact ⟨g, c, e, Nat.le_trans hN a, hg⟩
theorem GSM.form (h : GSM w B N M v Gs) : ∃ A cap, v = .slice A Gs.length cap ∧ Gs.length ≤ cap ∧ cap ≤ maxLen := by
  obtain ⟨vs, h1, h2, h3⟩ := h
  obtain ⟨A, cap, hv, a1, a2, _⟩ := h1.form
  rw [h2] at hv a1
  exact ⟨A, cap, hv, a1, a2⟩
end
/-- 'out = append(out, part)' on such a list. -/
theorem wpList_append_GSM {w : World} {ops : Array Oper} {rest : List Oper} {o : Oper} {a : Act} {Q : Exit → Act → World → Prop} (hgd : o.guard = none) (s x : Operand)
    (ho : o.op = .call { callee := .builtin .append, args := #[s, x], argTypes := #[150, 150] })
    (B N M : Nat) (v : Value) (Gs : List Gr) (hs : a.eval s = v) (hown : GSM w B N M v Gs) (g c : Nat) (G : Gr) (hN : N ≤ g) (hM : g < M) (hu : GB w g 4 G) (hx : a.eval x = .slice (some ⟨w.heap.size, 0, none⟩) 1 1) (hlen : Gs.length ≤ 1000000) (hB : B ≤ w.heap.size)
    (h : ∀ v' w', GSM w' B N M v' (Gs ++ [G]) → (∀ (p : Nat) (H : Gr), GB w p 4 H → GB w' p 4 H) → Below B w w' → wpList Tryz.prog ops Q rest (a.put o.dst v') w') :
    wpList Tryz.prog ops Q (o :: rest) a (w.alloc (.cells #[.slice (some ⟨g, 0, none⟩) 6400 c] 83)) := by
  obtain ⟨vs, h1, h2, h3⟩ := hown
  refine wpList_append_G hgd s x 83 150 1 24 _ infoBools Tryz.underlying150 rfl (by decide) (by decide) ho B v vs.length vs hs h1 [.slice (some ⟨g, 0, none⟩) 6400 c] rfl (by simp [Value.oneCell']) hx (by omega) hB ?_
  intro v' w' k1 k2 k3
  have hk : ∀ (p : Nat) (H : Gr), GB w p 4 H → GB w' p 4 H := fun p H hp => by
    obtain ⟨cs, hb, hr⟩ := hp
    exact ⟨cs, hb.grown k2 (hb.apart' h1 (by decide)), hr⟩
  refine h v' w' ⟨vs ++ [.slice (some ⟨g, 0, none⟩) 6400 c], by unfold VL; rw [List.length_append]; exact k1, by simp [h2], fun k y H hy hq => ?_⟩ hk k3
  by_cases hkl : k < vs.length
  · rw [List.getElem?_append_left hkl] at hy
    rw [List.getElem?_append_left (by omega)] at hq
    obtain ⟨g', c', e, e1, e2, e3⟩ := h3 k y H hy hq
    exact ⟨g', c', e, e1, e2, hk _ _ e3⟩
  · have hke : k = vs.length := by have := (List.getElem?_eq_some_iff.1 hy).1; simp at this; omega
    subst hke
    rw [List.getElem?_append_right (Nat.le_refl _), Nat.sub_self] at hy
    rw [List.getElem?_append_right (by omega), h2, Nat.sub_self] at hq
    simp at hy hq
    subst hy hq
    exact ⟨g, c, rfl, hN, hM, hk _ _ hu⟩

theorem gs_of_own {w : World} {B : Nat} {v : Value} {G : Gr} (h : w.ownsRow B 4 1 v 6400 ((List.range 6400).map fun i => .bool (G i))) : GS w B v G := by
  rcases h.2 with ⟨_, h0⟩ | ⟨g, cap, cur, hv, hB, hh, hn, hcm, hcs, htake⟩
  · exact absurd h0 (by omega)
  · refine ⟨g, cap, hv, hB, cur, hh, ⟨by omega, fun hne => absurd rfl hne⟩, fun i hi => ?_⟩
    have e : (cur.toList.take (6400 * 1))[i]? = some (.bool (G i)) := by rw [htake]; simp [hi]
    rw [List.getElem?_take, if_pos (by omega)] at e
    simpa using e
/-- 'left := append([]bool{}, b...)'. -/
theorem wpList_append_BB {w : World} {ops : Array Oper} {rest : List Oper} {o : Oper} {a : Act} {Q : Exit → Act → World → Prop} (hgd : o.guard = none) (s x : Operand)
    (ho : o.op = .call { callee := .builtin .append, args := #[s, x], argTypes := #[83, 83] })
    (B : Nat) (v : Value) (hs : a.eval s = v) (hown : w.ownsRow B 4 1 v 0 []) (g c : Nat) (G : Gr) (hG : GB w g 4 G) (hx : a.eval x = .slice (some ⟨g, 0, none⟩) 6400 c) (hB : B ≤ w.heap.size)
    (h : ∀ v' w', GS w' B v' G → w.grownBy w' v.ownBlock → Below B w w' → wpList Tryz.prog ops Q rest (a.put o.dst v') w') :
    wpList Tryz.prog ops Q (o :: rest) a w := by
  obtain ⟨i, hi, hz, hsz, hby⟩ := info_parts infoBool
  refine wpList_append_own_at _ hgd s x 83 ho B 4 i _ 1 1 Tryz.underlying83 hi hz hsz hby rfl (by decide) v 0 [] hs hown ⟨g, 0, none⟩ 6400 c
    ((List.range 6400).map fun i => .bool (G i)) hx (by simp) ?_ ?_ (by simp [maxLen]) (by omega) hB ?_
  · intro j u hu
    have hj : j < 6400 := by
      have := (List.getElem?_eq_some_iff.1 hu).1
      simpa using this
    rw [Addr.add_lit, Nat.zero_add, hG.cell hj, ← hu]
    simp [hj]
  · intro u hu
    obtain ⟨i, _, rfl⟩ := List.mem_map.1 hu
    rfl
  · intro v' w' h1 h2 _ _
    exact h v' w' (gs_of_own (by simpa using h1)) h2 (below_own hown h2 hB)

end Go.Proofs.YtemeegpmdhgocaaGreat

namespace Go.Proofs.YtemeegpmdhgocaaGreat
open Go.RowKit

theorem own_low2 {w w' : World} {B N n size : Nat} {e : TypeId} {v : Value} {xs : List Value} (h : w.ownsRow B e size v n xs) (hN : ∀ g, v.ownBlock = some g → g < N) (hb : Below N w w') : w'.ownsRow B e size v n xs := by
  refine ⟨h.1, ?_⟩
  rcases h.2 with hn | ⟨g, cap, cur, rfl, h1, h2, h3⟩
  · exact .inl hn
  · exact .inr ⟨g, cap, cur, rfl, h1, (hb.block g (hN g rfl)).trans h2, h3⟩
theorem take_setL {qs : List Nat} {k j : Nat} (h : qs[k]? = some j) : setL (qs.take (k + 1)) = updG (setL (qs.take k)) j true := by
  rw [List.take_add_one, h, Option.toList, setL_snoc]
theorem take_minus {L : Gr} {qs : List Nat} {k j : Nat} (h : qs[k]? = some j) : minusG L (setL (qs.take (k + 1))) = updG (minusG L (setL (qs.take k))) j false := by
  rw [take_setL h]
  funext i
  unfold minusG updG
  by_cases e : i = j
  · simp [e]
  · simp [e]
theorem minus_nil (L : Gr) : minusG L (setL []) = L := by funext i; simp [minusG, setL]
theorem still_eq {P : Program} {f : Nat} {args : Array Value} {w : World} {v : Value} (h : Calls P f args w fun e w' => e = .returned v ∧ w = w') : Calls P f args w fun e w' => e = .returned v ∧ w' = w := h.mono fun _ _ ⟨a, b⟩ => ⟨a, b.symm⟩
theorem emptyG_nil : emptyG = setL [] := by funext i; simp [emptyG, setL]

end Go.Proofs.YtemeegpmdhgocaaGreat

namespace Go.Proofs.YtemeegpmdhgocaaGreat
open Go.RowKit

end Go.Proofs.YtemeegpmdhgocaaGreat
