/- Contracts: CheckLayout of the reference and of the program, with what they call; the marks on a deck. Plain law: the report and its size. Conditions: a list of lists, a list of rules in memory. -/
import Derived.Test.YtemeegpmdhgocaaGreatClean
import Derived.Test.YtemeegpmdhgocaaGreatPartsA
import Derived.Test.YtemeegpmdhgocaaGreatComps
import Derived.Test.YtemeegpmdhgocaaGreatCopy
import Derived.Test.YtemeegpmdhgocaaGreatLawC
import Derived.Test.YtemeegpmdhgocaaGreatDeckA
namespace Go.Proofs.YtemeegpmdhgocaaGreat
open Go.RowKit

theorem encL_ok (rs qs : List Rc) (k : Int) : okAll (encL rs qs k) = true := by
  unfold encL
  repeat' split
  all_goals first | exact canon_ok _ | rfl
theorem rmV_ok (rss : List (List Rc)) (r : Ru) : okAll (rmV rss r) = true := by
  unfold rmV ruleM markV markgV mkbV encV areaMV densV
  repeat' split
  all_goals first | exact canon_ok _ | exact encL_ok _ _ _ | rfl

noncomputable def compV (i : Int) (ms : List Rc) : List (Int × List Rc) := ((comps (cellsG ms)).map canon).map fun c => (i, c)
noncomputable def ruleVs (rss : List (List Rc)) (qs : List Ru) (i : Nat) : List (Int × List Rc) := match qs[i]? with | some q => compV i (rmV rss q) | none => []
noncomputable def checkTo (rss : List (List Rc)) (qs : List Ru) (k : Nat) : List (Int × List Rc) := (List.range k).flatMap (ruleVs rss qs)
noncomputable def checkV (rss : List (List Rc)) (qs : List Ru) : List (Int × List Rc) := checkTo rss qs qs.length
theorem check_zero (rss : List (List Rc)) (qs : List Ru) : checkTo rss qs 0 = [] := rfl
theorem check_step {rss : List (List Rc)} {qs : List Ru} {k : Nat} {q : Ru} (h : qs[k]? = some q) : checkTo rss qs (k + 1) = checkTo rss qs k ++ compV k (rmV rss q) := by
  unfold checkTo
  rw [List.range_succ, List.flatMap_append, List.flatMap_singleton]
  unfold ruleVs
  rw [h]
theorem compV_length (i : Int) (ms : List Rc) : (compV i ms).length ≤ 6400 := by
  unfold compV
  rw [List.length_map, List.length_map]
  exact comps_length _
theorem check_length (rss : List (List Rc)) (qs : List Ru) : ∀ k, (checkTo rss qs k).length ≤ 6400 * k
  | 0 => Nat.le_refl _
  | k + 1 => by
    have ih := check_length rss qs k
    cases h : qs[k]? with
    | some q =>
      have := compV_length (k : Int) (rmV rss q)
      rw [check_step h, List.length_append]
      omega
    | none =>
      have e : checkTo rss qs (k + 1) = checkTo rss qs k := by
        unfold checkTo
        rw [List.range_succ, List.flatMap_append, List.flatMap_singleton]
        unfold ruleVs
        rw [h, List.append_nil]
      rw [e]
      omega

theorem LW.of_rll {w : World} {B : Nat} {v : Value} {rss : List (List Rc)} (h : RLL w B v rss) : ∃ us, LW w B v us rss := by
  obtain ⟨us, h1, h2, h3⟩ := h
  refine ⟨us, h2, ?_, h3⟩
  unfold VL at h1
  rw [h2] at h1
  exact h1
/-- Lists whose first elements differ lie in blocks of their own. -/
theorem LW.apart {w : World} {B : Nat} {v : Value} {us : List Value} {rss : List (List Rc)} (h : LW w B v us rss) (hf : ∀ (i j : Nat) (a b : List Rc), i ≠ j → rss[i]? = some a → rss[j]? = some b → ∃ p q, a[0]? = some p ∧ b[0]? = some q ∧ p ≠ q) : Apart us := by
  intro i j x y g hij hx hy hxg hyg
  have hi : i < rss.length := by rw [← h.len]; exact (List.getElem?_eq_some_iff.1 hx).1
  have hj : j < rss.length := by rw [← h.len]; exact (List.getElem?_eq_some_iff.1 hy).1
  obtain ⟨p, q, hp, hq, hpq⟩ := hf i j _ _ hij (List.getElem?_eq_getElem hi) (List.getElem?_eq_getElem hj)
  have ha := h.each i x _ hx (List.getElem?_eq_getElem hi)
  have hb := h.each j y _ hy (List.getElem?_eq_getElem hj)
  have la : 0 < rss[i].length := (List.getElem?_eq_some_iff.1 hp).1
  have lb : 0 < rss[j].length := (List.getElem?_eq_some_iff.1 hq).1
  obtain ⟨A, c, rfl, -, -, -⟩ := ha.form
  obtain ⟨A2, c2, rfl, -, -, -⟩ := hb.form
  obtain ⟨ga, p0, p1, p2, p3, rfl, ra, -, f0, f1, f2, f3⟩ := ha.elem la
  obtain ⟨gb, q0, q1, q2, q3, rfl, rb, -, d0, d1, d2, d3⟩ := hb.elem lb
  have e1 : ga = g := by simpa [Value.ownBlock] using hxg
  have e2 : gb = g := by simpa [Value.ownBlock] using hyg
  subst e1
  subst e2
  have k0 := f0.symm.trans d0
  have k1 := f1.symm.trans d1
  have k2 := f2.symm.trans d2
  have k3 := f3.symm.trans d3
  simp only [Option.some.injEq, Value.int.injEq, true_and] at k0 k1 k2 k3
  subst k0 k1 k2 k3
  exact hpq ((Option.some.inj (hp.symm.trans ra)).trans (Option.some.inj (hq.symm.trans rb)).symm)
theorem compsL_apart {w : World} {B : Nat} {v : Value} {us : List Value} {G : Gr} (h : LW w B v us ((comps G).map canon)) : Apart us := by
  obtain ⟨ss, hl, hp, hf⟩ := comps_firsts G
  refine h.apart fun i j a b hij ha hb => ?_
  rw [List.getElem?_map, Option.map_eq_some_iff] at ha hb
  obtain ⟨P, hP, rfl⟩ := ha
  obtain ⟨Q, hQ, rfl⟩ := hb
  have hi : i < ss.length := by rw [hl]; exact (List.getElem?_eq_some_iff.1 hP).1
  have hj : j < ss.length := by rw [hl]; exact (List.getElem?_eq_some_iff.1 hQ).1
  have f1 := hf i P _ hP (List.getElem?_eq_getElem hi)
  have f2 := hf j Q _ hQ (List.getElem?_eq_getElem hj)
  obtain ⟨x1, y1, l1, e1⟩ := canon_first f1
  obtain ⟨x2, y2, l2, e2⟩ := canon_first f2
  refine ⟨_, _, by rw [e1]; rfl, by rw [e2]; rfl, fun e => ?_⟩
  simp only [Rc.mk.injEq] at e
  have hne : ss[i] ≠ ss[j] := by
    rw [List.pairwise_iff_getElem] at hp
    rcases Nat.lt_or_gt_of_ne hij with h | h
    · have := hp i j hi hj h; omega
    · have := hp j i hj hi h; omega
  exact hne (by omega)
theorem Apart.append {xs ys : List Value} {N : Nat} (h : Apart xs) (h2 : Apart ys) (hlt : ∀ (k : Nat) (x : Value), xs[k]? = some x → ∀ g, x.ownBlock = some g → g < N) (hge : ∀ (k : Nat) (y : Value), ys[k]? = some y → ∀ g, y.ownBlock = some g → N ≤ g) : Apart (xs ++ ys) := by
  intro i j x y g hij hx hy hxg hyg
  rw [List.getElem?_append] at hx hy
  split at hx <;> split at hy
  · exact h i j x y g hij hx hy hxg hyg
  · have := hlt _ x hx g hxg; have := hge _ y hy g hyg; omega
  · have := hge _ x hx g hxg; have := hlt _ y hy g hyg; omega
  · exact h2 _ _ x y g (by omega) hx hy hxg hyg
theorem LW.keptX {w w' : World} {B B2 : Nat} {v v2 : Value} {us xs : List Value} {rss : List (List Rc)} {vs : List (Int × List Rc)} (h : LW w B v us rss) (ho : XW w B2 v2 xs vs) (hg : w.grownBy w' v2.ownBlock) : LW w' B v us rss :=
  ⟨h.len, World.ownsRow.kept h.own hg (own_apart h.own ho.own (by decide)), fun k u rs hu hr => World.ownsRow.kept (h.each k u rs hu hr) hg (own_apart (h.each k u rs hu hr) ho.own (by decide))⟩

end Go.Proofs.YtemeegpmdhgocaaGreat

namespace Go.Proofs.YtemeegpmdhgocaaGreat
open Go.RowKit

end Go.Proofs.YtemeegpmdhgocaaGreat

namespace Go.Proofs.YtemeegpmdhgocaaGreat
open Go.RowKit

end Go.Proofs.YtemeegpmdhgocaaGreat

namespace Go.Proofs.YtemeegpmdhgocaaGreat
open Go.RowKit

/-- What CheckLayout answers: the report and a code. -/
noncomputable def chkL (rss : List (List Rc)) (qs : List Ru) : List (Int × List Rc) := if layB rss = true ∧ deckB qs = true then (if (checkV rss qs).length ≤ 256 then checkV rss qs else []) else []
noncomputable def chkC (rss : List (List Rc)) (qs : List Ru) : Int := if layB rss = true ∧ deckB qs = true then (if (checkV rss qs).length ≤ 256 then 0 else 3) else 1
theorem chk_no {rss : List (List Rc)} {qs : List Ru} (h : ¬ (layB rss = true ∧ deckB qs = true)) : chkL rss qs = [] ∧ chkC rss qs = 1 := ⟨if_neg h, if_neg h⟩
theorem chk_yes {rss : List (List Rc)} {qs : List Ru} (h1 : layB rss = true) (h2 : deckB qs = true) (h : (checkV rss qs).length ≤ 256) : chkL rss qs = checkV rss qs ∧ chkC rss qs = 0 := by
  simp [chkL, chkC, h1, h2, h]
theorem chk_many {rss : List (List Rc)} {qs : List Ru} (h1 : layB rss = true) (h2 : deckB qs = true) (h : ¬ (checkV rss qs).length ≤ 256) : chkL rss qs = [] ∧ chkC rss qs = 3 := by
  have hn : ¬ (checkV rss qs).length ≤ 256 := h
  unfold chkL chkC
  rw [h1, h2, if_neg hn, if_neg hn]
  simp
theorem chkL_few (rss : List (List Rc)) (qs : List Ru) : (chkL rss qs).length ≤ 256 := by
  unfold chkL
  repeat' split
  · assumption
  · simp
  · simp
theorem deck_len {qs : List Ru} (h : deckB qs = true) : qs.length ≤ 12 := by
  unfold deckB at h
  rw [Bool.and_eq_true] at h
  exact of_decide_eq_true h.1
theorem XW.nil (w : World) (B : Nat) : XW w B (.slice none 0 0) [] [] := ⟨rfl, World.ownsRow_nil _ _ _ _, fun k u q hu => by simp at hu⟩

end Go.Proofs.YtemeegpmdhgocaaGreat

namespace Go.Proofs.YtemeegpmdhgocaaGreat
open Go.RowKit

theorem len_area : ∀ {rs : List Rc}, okAll rs = true → (rs.length : Int) ≤ sumA rs
  | [], _ => by simp [sumA]
  | r :: rs, h => by
    have h' : okRc r = true ∧ okAll rs = true := by simpa [okAll] using h
    have ih := len_area h'.2
    have h1 := (areaR_bounds h'.1).1
    have e : sumA (r :: rs) = areaR r + sumA rs := by simp [sumA]
    rw [e, List.length_cons]
    omega
theorem canons_size : ∀ Ps : List Gr, (((Ps.map fun P => (canon P).length).sum : Nat) : Int) ≤ smallN 6401 Ps
  | [] => by simp [smallN]
  | P :: Ps => by
    have ih := canons_size Ps
    have h1 := len_area (canon_ok P)
    rw [count_canon] at h1
    have h2 := (count_bounds P).2
    have e : smallN 6401 (P :: Ps) = countG P + smallN 6401 Ps := by unfold smallN; rw [if_pos (by omega)]; rw [show smallN 6401 Ps = smallN 6401 Ps from rfl]; cases Ps <;> rfl
    rw [e, List.map_cons, List.sum_cons]
    omega
theorem compV_size (i : Int) (ms : List Rc) : sizeV (compV i ms) ≤ 6400 := by
  have h := canons_size (comps (cellsG ms))
  rw [← small_sum] at h
  have h2 := (count_bounds (smallG 6401 (comps (cellsG ms)))).2
  have e : sizeV (compV i ms) = ((comps (cellsG ms)).map fun P => (canon P).length).sum := by
    unfold sizeV compV
    rw [List.map_map, List.map_map]
    rfl
  rw [e]
  omega
theorem sizeV_append (a b : List (Int × List Rc)) : sizeV (a ++ b) = sizeV a + sizeV b := by
  unfold sizeV
  rw [List.map_append, List.sum_append]
theorem check_size (rss : List (List Rc)) (qs : List Ru) : ∀ k, sizeV (checkTo rss qs k) ≤ 6400 * k
  | 0 => Nat.le_refl _
  | k + 1 => by
    have ih := check_size rss qs k
    cases h : qs[k]? with
    | some q =>
      have := compV_size (k : Int) (rmV rss q)
      rw [check_step h, sizeV_append]
      omega
    | none =>
      have e : checkTo rss qs (k + 1) = checkTo rss qs k := by
        unfold checkTo
        rw [List.range_succ, List.flatMap_append, List.flatMap_singleton]
        unfold ruleVs
        rw [h, List.append_nil]
      rw [e]
      omega
theorem chkL_size (rss : List (List Rc)) (qs : List Ru) : (chkL rss qs).length + sizeV (chkL rss qs) ≤ 200000 := by
  have h0 := chkL_few rss qs
  have h1 : sizeV (chkL rss qs) ≤ 76800 := by
    unfold chkL
    split
    · rename_i h
      split
      · have := check_size rss qs qs.length
        have h2 := deck_len h.2
        show sizeV (checkTo rss qs qs.length) ≤ _
        omega
      · simp [sizeV]
    · simp [sizeV]
  omega

end Go.Proofs.YtemeegpmdhgocaaGreat

namespace Go.Proofs.YtemeegpmdhgocaaGreat
open Go.RowKit

set_option maxHeartbeats 800000 in
set_option maxRecDepth 100000 in
theorem markRuleS_any (v : Value) (qs : List Ru) (w : World) (B : Nat) (hv : QL w B v qs) (k0 : Int) (h0 : 0 ≤ k0) (h1 : k0 ≤ 100000000) (hn : qs.length ≤ 1048576) :
    Calls Tryz.prog 44 #[v, .int .i64 k0] w fun e w' => e = .returned (.int .i64 (k0 + 5 * qs.length)) ∧ w.grownBy w' v.ownBlock := by
  obtain ⟨A, c1, rfl, hc1, hm1⟩ := hv.form
  go_enter Tryz.func44, Tryz.ntmps44
  go_wp2
  go_loopw [1, 5] (fun kv i wr => ∃ (j : Nat) (ps : List Ru), j ≤ qs.length ∧ i = .int .i64 j ∧ kv = .int .i64 (k0 + 5 * j) ∧ Hid (ps.length = qs.length) ∧ wr.ownsRow B 60 5 (.slice A qs.length c1) qs.length (flatQ ps) ∧ w.grownBy wr (Value.slice A qs.length c1).ownBlock) (fun _ i _ => qs.length - (intOf i).toNat)
  case atStart => exact ⟨0, qs, Nat.zero_le _, rfl, by simp, Lib.hid rfl, hv, only_refl _ _⟩
  case round =>
    obtain ⟨j, ps, hj, rfl, rfl, Hl, hR, hg⟩ := hrel
    by_cases hlt : j < qs.length
    · have hR' : QL wr B (.slice A qs.length c1) ps := by unfold QL; rw [Hl.out]; exact hR
      obtain ⟨p, hp⟩ : ∃ p, ps[j]? = some p := ⟨_, List.getElem?_eq_getElem (by rw [Hl.out]; exact hlt)⟩
      obtain ⟨g, rfl, -, hgs, f0, f1, f2, f3, f4⟩ := hR'.elem hp
      have z0 := hR'.frozen (j * 5)
      have z1 := hR'.frozen (j * 5 + 1)
      have z2 := hR'.frozen (j * 5 + 2)
      have z3 := hR'.frozen (j * 5 + 3)
      have z4 := hR'.frozen (j * 5 + 4)
      have hS := hR'.set5 (show j < ps.length by rw [Hl.out]; exact hlt) (k0 + 5 * j) (k0 + 5 * j + 1) (k0 + 5 * j + 1 + 1) (k0 + 5 * j + 1 + 1 + 1) (k0 + 5 * j + 1 + 1 + 1 + 1)
      unfold QL at hS
      rw [List.length_set, Hl.out] at hS
      have hG := only_store (only_store (only_store (only_store (only_store hg (j * 5) (.int .i64 (k0 + 5 * j))) (j * 5 + 1) (.int .i64 (k0 + 5 * j + 1))) (j * 5 + 2) (.int .i64 (k0 + 5 * j + 1 + 1))) (j * 5 + 3) (.int .i64 (k0 + 5 * j + 1 + 1 + 1))) (j * 5 + 4) (.int .i64 (k0 + 5 * j + 1 + 1 + 1 + 1))
      have HS := Lib.hid hS
      have HG := Lib.hid hG
      have Hl2 := Lib.hid (show (ps.set j ⟨k0 + 5 * j, k0 + 5 * j + 1, k0 + 5 * j + 1 + 1, k0 + 5 * j + 1 + 1 + 1, k0 + 5 * j + 1 + 1 + 1 + 1⟩).length = qs.length by rw [List.length_set]; exact Hl.out)
      have hj9 : j < 9223372036854775807 := by omega
      clear hS hG hR hR' hg hp hv
      go_wp2
      exact ⟨⟨j + 1, _, by omega, by go_num, by go_num, Hl2, HS.out, HG.out⟩, by simp [intOf]; omega⟩
    · have hke : j = qs.length := by omega
      subst hke
      go_wp2
      go_ret
      exact ⟨rfl, hg⟩
theorem markDeck_any (v : Value) (qs : List Ru) (w : World) (B : Nat) (hv : QL w B v qs) (k0 : Int) (h0 : 0 ≤ k0) (h1 : k0 ≤ 100000000) (hn : qs.length ≤ 1048576) :
    Calls Tryz.prog 17 #[.agg #[v], .int .i64 k0] w fun e w' => e = .returned (.int .i64 (k0 + 5 * qs.length)) ∧ (w.alloc (.cells #[v] 39)).grownBy w' v.ownBlock := by
  have hv0 := hv.alloc (.cells #[v] 39)
  clear hv
  go_enter Tryz.func17, Tryz.ntmps17
  go_wp2_with fail
  refine (markRuleS_any v qs _ B hv0 k0 h0 h1 hn).mono ?_
  rintro e w1 ⟨rfl, hg⟩
  go_wp2
  go_ret
  exact ⟨rfl, hg⟩

end Go.Proofs.YtemeegpmdhgocaaGreat
