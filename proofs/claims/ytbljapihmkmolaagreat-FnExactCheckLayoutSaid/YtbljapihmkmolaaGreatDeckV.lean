/- Contracts: l16Has of the reference, slices.Contains on rules, IsValidDeck of both. Conditions: lists in memory. -/
import Derived.Test.YtbljapihmkmolaaGreatDeckO
import Derived.Deep.RegionHeld3
import Derived.BigQuiet
namespace Go.Proofs.YtbljapihmkmolaaGreat
open Go.RowKit

theorem QL.arg {w : World} {B n c : Nat} {A : Option Addr} {qs : List Ru} (h : QL w B (.slice A n c) qs) : ArgQ w A qs.length qs := by
  refine ⟨rfl, fun k q hq => ?_⟩
  obtain ⟨g, hA, -, hg, h0, h1, h2, h3, h4⟩ := h.elem hq
  refine ⟨g, 0, hA, hg, ?_⟩
  rw [Nat.zero_add]
  exact ⟨h0, h1, h2, h3, h4⟩
theorem ArgQ.take {w : World} {A : Option Addr} {n k : Nat} {qs : List Ru} (h : ArgQ w A n qs) (hk : k ≤ n) : ArgQ w A k (qs.take k) := by
  refine ⟨by rw [List.length_take, h.len]; omega, fun j q hq => h.elem j q ?_⟩
  rw [List.getElem?_take] at hq
  split at hq
  · exact hq
  · cases hq
theorem eqRu_iff (p q : Ru) : eqRu p q = true ↔ p = q := by simp [eqRu]
theorem eqRu_no (p q : Ru) : eqRu p q = false ↔ p ≠ q := by simp [eqRu]
/-- Is q among the rules qs? -/
def hasQ (qs : List Ru) (q : Ru) : Bool := decide (q ∈ qs)
theorem has_yes {qs : List Ru} {q : Ru} {k : Nat} (h : qs[k]? = some q) : hasQ qs q = true := decide_eq_true (List.mem_of_getElem? h)
theorem has_not {qs : List Ru} {q : Ru} (h : ∀ j p, j < qs.length → qs[j]? = some p → p ≠ q) : hasQ qs q = false := by
  refine decide_eq_false fun hc => ?_
  obtain ⟨k, hk, e⟩ := List.getElem_of_mem hc
  exact h k q hk (by rw [List.getElem?_eq_getElem hk, e]) rfl

set_option maxHeartbeats 800000 in
set_option maxRecDepth 100000 in
theorem l16Has_any (A : Option Addr) (n c : Nat) (qs : List Ru) (q : Ru) (w : World) (hA : ArgQ w A n qs) (hn : n ≤ 1000000000) :
    Calls Tryz.prog 127 #[.slice A n c, q.val] w fun e w' => e = .returned (.bool (hasQ qs q)) ∧ Below w.heap.size w w' := by
  obtain rfl := hA.len
  obtain ⟨b0, b1, b2, b3, b4⟩ := q
  unfold Ru.val
  dsimp only
  have hb0 := (Below.refl w.heap.size w).alloc (Nat.le_refl _) (.cells #[.int .i64 b0, .int .i64 b1, .int .i64 b2, .int .i64 b3, .int .i64 b4] 30)
  have zb := Bk.new w 30 #[.int .i64 b0, .int .i64 b1, .int .i64 b2, .int .i64 b3, .int .i64 b4]
  have Hi0 := Lib.hid (show ∀ (j : Nat) (p : Ru), j < 0 → qs[j]? = some p → p ≠ ⟨b0, b1, b2, b3, b4⟩ from fun j p hj => absurd hj (by omega))
  go_enter Tryz.func127, Tryz.ntmps127
  go_wp2
  go_loopw [5] (fun iv wr => ∃ k : Nat, k ≤ qs.length ∧ iv = .int .i64 k ∧ Hid (∀ (j : Nat) (p : Ru), j < k → qs[j]? = some p → p ≠ ⟨b0, b1, b2, b3, b4⟩) ∧ Bk wr w.heap.size 30 #[.int .i64 b0, .int .i64 b1, .int .i64 b2, .int .i64 b3, .int .i64 b4] ∧ Below w.heap.size w wr) (fun iv _ => qs.length - (intOf iv).toNat)
  case atStart => exact ⟨0, Nat.zero_le _, rfl, Hi0, zb, hb0⟩
  case round =>
    obtain ⟨k, hk, rfl, HI, hz, hb⟩ := hrel
    clear hb0 Hi0 zb
    by_cases hlt : k < qs.length
    · obtain ⟨q, hq⟩ : ∃ q, qs[k]? = some q := ⟨_, List.getElem?_eq_getElem hlt⟩
      obtain ⟨b, off, rfl, hbl, f0, f1, f2, f3, f4⟩ := (hA.on hb).elem k q hq
      obtain ⟨a0, a1, a2, a3, a4⟩ := q
      dsimp only at f0 f1 f2 f3 f4
      have Hq := Lib.hid hq
      obtain ⟨c0, c1, c2, c3, c4⟩ := box5 hz
      have hk9 : k < 9223372036854775807 := by omega
      clear hq hA
      cases he : eqRu ⟨a0, a1, a2, a3, a4⟩ ⟨b0, b1, b2, b3, b4⟩ with
      | true =>
        have Hyes := Lib.hid (has_yes (((eqRu_iff _ _).1 he) ▸ Hq.out))
        go_wp2
        go_quiet (fail)
        go_wp2
        go_ret
        exact ⟨ret_bool Hyes.out.symm, below_drewN hb _⟩
      | false =>
        have HI2 := Lib.hid (show ∀ (j : Nat) (p : Ru), j < k + 1 → qs[j]? = some p → p ≠ ⟨b0, b1, b2, b3, b4⟩ from fun j p hj hp => by
          by_cases e : j = k
          · subst e
            rw [Hq.out] at hp
            cases hp
            exact (eqRu_no _ _).1 he
          · exact HI.out j p (by omega) hp)
        go_wp2
        go_quiet (fail)
        go_wp2
        exact ⟨⟨k + 1, by omega, by go_num, HI2, hz.drewN _, below_drewN hb _⟩, by simp [intOf]; omega⟩
    · have hke : k = qs.length := by omega
      subst hke
      have Hno := Lib.hid (has_not HI.out)
      go_wp2
      go_ret
      exact ⟨ret_bool Hno.out.symm, hb⟩

def hasAt (qs : List Ru) (q : Ru) (w : World) (e : Ending) (w' : World) : Prop := ∃ n : Int, e = .returned (.int .i64 n) ∧ -1 ≤ n ∧ n ≤ 1000000000 ∧ decide (0 ≤ n) = hasQ qs q ∧ Below w.heap.size w w'
set_option maxHeartbeats 800000 in
set_option maxRecDepth 100000 in
theorem ruIndex_any (A : Option Addr) (n c : Nat) (qs : List Ru) (q : Ru) (w : World) (hA : ArgQ w A n qs) (hn : n ≤ 1000000000) :
    Calls Tryz.prog 174 #[.slice A n c, q.val] w (hasAt qs q w) := by
  obtain rfl := hA.len
  obtain ⟨b0, b1, b2, b3, b4⟩ := q
  unfold Ru.val
  dsimp only
  have hb0 := (Below.refl w.heap.size w).alloc (Nat.le_refl _) (.cells #[.int .i64 b0, .int .i64 b1, .int .i64 b2, .int .i64 b3, .int .i64 b4] 30)
  have zb := Bk.new w 30 #[.int .i64 b0, .int .i64 b1, .int .i64 b2, .int .i64 b3, .int .i64 b4]
  have Hi0 := Lib.hid (show ∀ (j : Nat) (p : Ru), j < 0 → qs[j]? = some p → p ≠ ⟨b0, b1, b2, b3, b4⟩ from fun j p hj => absurd hj (by omega))
  go_enter Tryz.func174, Tryz.ntmps174
  go_wp2
  go_loopw [8] (fun iv wr => ∃ k : Nat, k ≤ qs.length ∧ iv = .int .i64 k ∧ Hid (∀ (j : Nat) (p : Ru), j < k → qs[j]? = some p → p ≠ ⟨b0, b1, b2, b3, b4⟩) ∧ Bk wr w.heap.size 30 #[.int .i64 b0, .int .i64 b1, .int .i64 b2, .int .i64 b3, .int .i64 b4] ∧ Below w.heap.size w wr) (fun iv _ => qs.length - (intOf iv).toNat)
  case atStart => exact ⟨0, Nat.zero_le _, rfl, Hi0, zb, hb0⟩
  case round =>
    obtain ⟨k, hk, rfl, HI, hz, hb⟩ := hrel
    clear hb0 Hi0 zb
    by_cases hlt : k < qs.length
    · obtain ⟨q, hq⟩ : ∃ q, qs[k]? = some q := ⟨_, List.getElem?_eq_getElem hlt⟩
      obtain ⟨b, off, rfl, hbl, f0, f1, f2, f3, f4⟩ := (hA.on hb).elem k q hq
      obtain ⟨a0, a1, a2, a3, a4⟩ := q
      dsimp only at f0 f1 f2 f3 f4
      have Hq := Lib.hid hq
      obtain ⟨c0, c1, c2, c3, c4⟩ := box5 hz
      have hk9 : k < 9223372036854775807 := by omega
      clear hq hA
      cases he : eqRu ⟨b0, b1, b2, b3, b4⟩ ⟨a0, a1, a2, a3, a4⟩ with
      | true =>
        have Hyes := Lib.hid (has_yes (((eqRu_iff _ _).1 he).symm ▸ Hq.out))
        go_wp2
        go_quiet (fail)
        go_wp2
        go_ret
        exact ⟨_, rfl, by omega, by omega, by rw [Hyes.out]; exact decide_eq_true (by omega), below_drewN hb _⟩
      | false =>
        have HI2 := Lib.hid (show ∀ (j : Nat) (p : Ru), j < k + 1 → qs[j]? = some p → p ≠ ⟨b0, b1, b2, b3, b4⟩ from fun j p hj hp => by
          by_cases e : j = k
          · subst e
            rw [Hq.out] at hp
            cases hp
            exact fun h => (eqRu_no _ _).1 he h.symm
          · exact HI.out j p (by omega) hp)
        go_wp2
        go_quiet (fail)
        go_wp2
        exact ⟨⟨k + 1, by omega, by go_num, HI2, hz.drewN _, below_drewN hb _⟩, by simp [intOf]; omega⟩
    · have hke : k = qs.length := by omega
      subst hke
      have Hno := Lib.hid (has_not HI.out)
      go_wp2
      go_ret
      exact ⟨_, rfl, by omega, by omega, by rw [Hno.out]; rfl, hb⟩
theorem ruHas_any (A : Option Addr) (n c : Nat) (qs : List Ru) (q : Ru) (w : World) (hA : ArgQ w A n qs) (hn : n ≤ 1000000000) :
    Calls Tryz.prog 128 #[.slice A n c, q.val] w fun e w' => e = .returned (.bool (hasQ qs q)) ∧ Below w.heap.size w w' := by
  have hb0 := (Below.refl w.heap.size w).alloc (Nat.le_refl _) (.cells #[.int .i64 q.k, .int .i64 q.l, .int .i64 q.o, .int .i64 q.v, .int .i64 q.p] 30)
  have hA0 := hA.on hb0
  clear hA
  unfold Ru.val
  go_enter Tryz.func128, Tryz.ntmps128
  go_wp2_with fail
  refine (ruIndex_any A n c qs q _ hA0 hn).mono ?_
  rintro e w1 ⟨i, rfl, h1, h2, h3, hb1⟩
  have H3 := Lib.hid h3
  clear h3
  go_wp2
  go_ret
  exact ⟨ret_bool H3.out, hb0.trans (hb1.mono hb0.size)⟩

end Go.Proofs.YtbljapihmkmolaaGreat
