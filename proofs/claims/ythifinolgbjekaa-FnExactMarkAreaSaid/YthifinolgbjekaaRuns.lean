/- Contracts: the reference's l03Runs and l03Equal. Condition of l03Runs: the row lies on the chip. -/
import Derived.Test.YthifinolgbjekaaBits
import Derived.Test.YthifinolgbjekaaRowMath
namespace Go.Proofs.Ythifinolgbjekaa
open Go.RowKit

/-- 'out = append(out, n)' on a list of integers of the call's own. -/
theorem wpList_append_I {w : World} {ops : Array Oper} {rest : List Oper} {o : Oper} {a : Act} {Q : Exit → Act → World → Prop} (hgd : o.guard = none) (s x : Operand)
    (ho : o.op = .call { callee := .builtin .append, args := #[s, x], argTypes := #[30, 30] })
    (B : Nat) (v : Value) (xs : List Int) (hs : a.eval s = v) (hown : IL w B v xs) (n : Int) (hx : a.eval x = .slice (some ⟨w.heap.size, 0, none⟩) 1 1)
    (hlen : xs.length ≤ 1000000) (hB : B ≤ w.heap.size)
    (h : ∀ v' w', IL w' B v' (xs ++ [n]) → w.grownBy w' v.ownBlock → Below B w w' → wpList Try.prog ops Q rest (a.put o.dst v') w') :
    wpList Try.prog ops Q (o :: rest) a (w.alloc (.cells #[.int .i64 n] 2)) := by
  obtain ⟨i, hi, hz, hsz, hby⟩ := info_parts infoInt
  refine wpList_append_own _ hgd s x 30 ho B 2 i _ 1 8 Try.underlying30 hi hz hsz hby rfl (by decide) v xs.length (valsI xs) hs (World.ownsRow.alloc hown _) ⟨w.heap.size, 0, none⟩ 1 1
    [.int .i64 n] hx rfl ?_ ?_ (by simp only [maxLen]; omega) (by omega) (by simp; omega) ?_
  · intro j u hu
    rw [Addr.add_lit, World.cell?_alloc_new]
    simpa using hu
  · intro u hu
    simp at hu
    subst hu; rfl
  · intro v' w' h1 h2 _
    have h3 := grown_of_alloc h2
    refine h v' w' ?_ h3 (below_own hown h3 hB)
    unfold IL
    have e : valsI (xs ++ [n]) = valsI xs ++ [.int .i64 n] := by simp [valsI]
    rw [e, List.length_append]
    exact h1

section
variable {w w' : World} {B B' : Nat} {v : Value} {xs : List Int}
theorem IL.on (h : IL w B v xs) (hb : Below w.heap.size w w') : IL w' B v xs := own_on h hb
theorem IL.less (h : IL w B v xs) (hB : B' ≤ B) : IL w B' v xs := own_less h hB
theorem IL.form (h : IL w B v xs) : ∃ A cap, v = .slice A xs.length cap ∧ xs.length ≤ cap ∧ cap ≤ maxLen := by
  obtain ⟨A, cap, hv, h1, h2, _⟩ := own_form h
  exact ⟨A, cap, hv, h1, h2⟩
/-- The element k, in memory. -/
theorem IL.elem {A : Option Addr} {n c : Nat} (h : IL w B (.slice A n c) xs) {k : Nat} (hk : k < xs.length) : ∃ g x, A = some ⟨g, 0, none⟩ ∧ xs[k]? = some x ∧ B ≤ g ∧ g < w.heap.size ∧ w.cell? ⟨g, k, none⟩ = some (.int .i64 x) := by
  obtain ⟨A', cap, hv, h1, h2, h3⟩ := own_form h
  simp only [Value.slice.injEq] at hv
  obtain ⟨g, hA, hB, hg, hc, _⟩ := h3 (by omega)
  have hx : xs[k]? = some xs[k] := List.getElem?_eq_getElem hk
  exact ⟨g, xs[k], hv.1.trans hA, hx, hB, hg, hc k _ (by rw [valsI, List.getElem?_map, hx]; rfl)⟩
end

theorem hasG_at {G : Gr} {a n : Nat} (ha : a < 80) : hasG G ((n : Int) - 40) ((a : Int) - 40) = at_ G a n := by
  by_cases hn : n < 80
  · have hc : onC ((n : Int) - 40) ((a : Int) - 40) = true := (onC_iff _ _).2 (by omega)
    rw [hasG_on hc, at_in G ha hn]
    congr 1
    unfold ix
    omega
  · have hc : onC ((n : Int) - 40) ((a : Int) - 40) = false := onC_no (by omega)
    rw [hasG_off hc, at_out G (by omega)]
theorem turns_at {G : Gr} {a n : Nat} (ha : a < 80) : (hasG G ((n : Int) - 40) ((a : Int) - 40) != hasG G ((n : Int) - 40 - 1) ((a : Int) - 40)) = turns G a n := by
  rw [hasG_at ha]
  unfold turns
  by_cases hn : n = 0
  · subst hn
    have hc : onC (((0 : Nat) : Int) - 40 - 1) ((a : Int) - 40) = false := onC_no (by omega)
    rw [hasG_off hc]
    simp
  · have e : (n : Int) - 40 - 1 = ((n - 1 : Nat) : Int) - 40 := by omega
    rw [e, hasG_at ha]
    have : decide (0 < n) = true := decide_eq_true (by omega)
    rw [this, Bool.true_and]

/-- The changes below n, as the reference lists them. -/
def runsTo (G : Gr) (a n : Nat) : List Int := (turnsTo G a n).map fun x : Nat => (x : Int) - 40
theorem runsTo_yes {G : Gr} {a n : Nat} (h : turns G a n = true) : runsTo G a (n + 1) = runsTo G a n ++ [(n : Int) - 40] := by
  unfold runsTo
  rw [turnsTo_succ, if_pos h, List.map_append]
  rfl
theorem runsTo_no {G : Gr} {a n : Nat} (h : turns G a n = false) : runsTo G a (n + 1) = runsTo G a n := by
  unfold runsTo
  rw [turnsTo_succ, if_neg (by rw [h]; simp), List.append_nil]
theorem runsTo_length (G : Gr) (a n : Nat) : (runsTo G a n).length ≤ n := by
  rw [runsTo, List.length_map, turnsTo]
  exact Nat.le_trans (List.length_filter_le _ _) (by simp)

set_option maxHeartbeats 400000 in
set_option maxRecDepth 100000 in
/-- l03Runs. -/
theorem l03Runs_any (v : Value) (G : Gr) (a : Nat) (w : World) (hG : GS w 0 v G) (ha : a < 80) : Calls Try.prog 93 #[v, .int .i64 ((a : Int) - 40)] w fun e w' => ∃ u, e = .returned u ∧ IL w' w.heap.size u (runsL G a) ∧ Below w.heap.size w w' := by
  have i0 : IL (w.alloc (.cells #[] 2)) w.heap.size (.slice (some ⟨w.heap.size, 0, none⟩) 0 0) [] := World.ownsRow_lit w #[] 0 (Nat.le_refl _) (by simp [maxLen]) rfl
  have b0 : Below w.heap.size w (w.alloc (.cells #[] 2)) := (Below.refl _ _).alloc (Nat.le_refl _) _
  go_enter Try.func93, Try.ntmps93
  go_wp2
  go_loopw [5, 6] (fun out xv wr => ∃ n : Nat, n ≤ 81 ∧ xv = .int .i64 ((n : Int) - 40) ∧ IL wr w.heap.size out (runsTo G a n) ∧ Below w.heap.size w wr) (fun _ xv _ => (41 - intOf xv).toNat)
  case atStart => exact ⟨0, by omega, rfl, i0, b0⟩
  case round =>
    obtain ⟨n, hn, rfl, hI, hb⟩ := hrel
    clear i0 b0
    have hG1 := hG.on hb
    by_cases hlt : n ≤ 80
    · have hl : (runsTo G a n).length ≤ 1000000 := Nat.le_trans (runsTo_length G a n) (by omega)
      have hB := hb.size
      have Ht := Lib.hid (turns_at (G := G) (n := n) ha)
      go_wp2_with (first | (go_at_call 115; refine (l03Has_any v G _ _ _ hG1).mono ?_; rintro e w1 ⟨rfl, rfl⟩) | (at_builtin; refine wpList_append_I rfl (.tmp 22) (.tmp 24) rfl w.heap.size _ _ rfl hI _ rfl hl hB ?_))
      · intro v1 w1 ho1 hg1 hb1
        have h0 : (hasG G ((n : Int) - 40) ((a : Int) - 40) != hasG G ((n : Int) - 40 - 1) ((a : Int) - 40)) = true := by assumption
        go_wp2
        refine ⟨⟨n + 1, by omega, by go_num, ?_, hb.trans hb1⟩, by simp [intOf]; omega⟩
        rw [runsTo_yes (Ht.out ▸ h0)]
        exact ho1
      · have h0 : (hasG G ((n : Int) - 40) ((a : Int) - 40) != hasG G ((n : Int) - 40 - 1) ((a : Int) - 40)) = false := by assumption
        refine ⟨⟨n + 1, by omega, by go_num, ?_, hb⟩, by simp [intOf]; omega⟩
        rw [runsTo_no (Ht.out ▸ h0)]
        exact hI
    · go_wp2
      go_ret
      have : n = 81 := by omega
      subst this
      exact ⟨_, rfl, hI, hb⟩

/-- Two lists are equal. -/
def eqI (xs ys : List Int) : Bool := decide (xs = ys)

set_option maxHeartbeats 400000 in
set_option maxRecDepth 100000 in
/-- l03Equal. -/
theorem l03Equal_any (v u : Value) (xs ys : List Int) (w : World) (hv : IL w 0 v xs) (hu : IL w 0 u ys) : Calls Try.prog 94 #[v, u] w fun e w' => e = .returned (.bool (eqI xs ys)) ∧ Below w.heap.size w w' := by
  obtain ⟨A, c, rfl, hc, hm⟩ := hv.form
  obtain ⟨A2, c2, rfl, hc2, hm2⟩ := hu.form
  unfold maxLen at hm hm2
  by_cases hl : xs.length = ys.length
  · have Hl := Lib.hid hl
    rw [hl] at hc ⊢
    clear hl
    go_enter Try.func94, Try.ntmps94
    go_wp2
    go_loopw [5] (fun i wr => ∃ k : Nat, k ≤ ys.length ∧ i = .int .i64 k ∧ Hid (xs.take k = ys.take k) ∧ Below w.heap.size w wr) (fun i _ => ys.length - (intOf i).toNat)
    case atStart => exact ⟨0, Nat.zero_le _, rfl, Lib.hid rfl, Below.refl _ _⟩
    case round =>
      obtain ⟨k, hk, rfl, hok, hb⟩ := hrel
      by_cases hlt : k < ys.length
      · obtain ⟨g, x, hA, hr, _, hg, f0⟩ := (hv.on hb).elem (k := k) (by rw [Hl.out]; exact hlt)
        obtain ⟨g', x', hA', hr', _, hg', f0'⟩ := (hu.on hb).elem hlt
        subst hA hA'
        have Hr := Lib.hid hr
        have Hr' := Lib.hid hr'
        clear hr hr' hv hu
        go_wp2
        go_quiet (fail)
        go_wp2
        · have h0 : (x != x') = true := by assumption
          go_ret
          refine ⟨ret_bool ?_, below_drewN hb _⟩
          exact (decide_eq_false (ne_at Hr.out Hr'.out (by simpa using h0))).symm
        · have h0 : (x != x') = false := by assumption
          refine ⟨⟨k + 1, by omega, by go_num, Lib.hid (take_succ_eq hok.out Hr.out Hr'.out (by simpa using h0)), below_drewN hb _⟩, by simp [intOf]; omega⟩
      · go_wp2
        go_ret
        refine ⟨ret_bool ?_, hb⟩
        have h1 := hok.out
        have h2 := Hl.out
        rw [List.take_of_length_le (by omega), List.take_of_length_le (by omega)] at h1
        simp [eqI, h1]
  · have hne : ((xs.length : Int) != (ys.length : Int)) = true := by rw [bne_iff_ne]; omega
    go_enter Try.func94, Try.ntmps94
    go_wp2
    go_ret
    refine ⟨ret_bool ?_, Below.refl _ _⟩
    exact (decide_eq_false (fun e => hl (by rw [e]))).symm

end Go.Proofs.Ythifinolgbjekaa
