/- Plain mathematics: what a counting loop gathers, as a function; the windows of the chip. No conditions. -/
import Derived.Test.YthifinolgbjekaaGrid
namespace Go.Proofs.Ythifinolgbjekaa

section
variable {σ α : Type} (c : σ → Bool) (step : σ → σ) (out : σ → List α)
/-- What a loop gathers in at most n rounds. -/
def gatherN : Nat → σ → List α
  | 0, _ => []
  | n + 1, s => if c s = true then out s ++ gatherN n (step s) else []
variable (μ : σ → Nat)
/-- What a loop gathers whose measure is μ. -/
def gather (s : σ) : List α := gatherN c step out (μ s) s
variable (hμ : ∀ s, c s = true → μ (step s) < μ s)
include hμ
theorem gatherN_enough : ∀ n s, μ s ≤ n → gatherN c step out n s = gather c step out μ s := by
  intro n
  induction n using Nat.strongRecOn with
  | _ n ih =>
    intro s hs
    unfold gather
    by_cases hc : c s = true
    · have hlt := hμ s hc
      obtain ⟨m, hm⟩ : ∃ m, μ s = m + 1 := ⟨μ s - 1, by omega⟩
      obtain ⟨k, rfl⟩ : ∃ k, n = k + 1 := ⟨n - 1, by omega⟩
      rw [hm, gatherN, gatherN, if_pos hc, if_pos hc]
      congr 1
      rw [ih k (by omega) _ (by omega)]
      by_cases hk : m < k + 1
      · rw [ih m hk _ (by omega)]
      · have : m = k := by omega
        subst this
        rw [ih m (by omega) _ (by omega)]
    · have h0 : ∀ k, gatherN c step out k s = [] := by
        intro k
        cases k with
        | zero => rfl
        | succ k => rw [gatherN, if_neg hc]
      rw [h0, h0]
theorem gather_step (s : σ) (hc : c s = true) : gather c step out μ s = out s ++ gather c step out μ (step s) := by
  have hlt := hμ s hc
  obtain ⟨m, hm⟩ : ∃ m, μ s = m + 1 := ⟨μ s - 1, by omega⟩
  have h1 := gatherN_enough c step out μ hμ m (step s) (by omega)
  unfold gather at h1 ⊢
  rw [hm, gatherN, if_pos hc, h1]
omit hμ in
theorem gather_stop (s : σ) (hc : c s = false) : gather c step out μ s = [] := by
  unfold gather
  cases μ s with
  | zero => rfl
  | succ k => rw [gatherN, if_neg (by rw [hc]; exact Bool.false_ne_true)]
/-- A bound on the length: at most b a round. -/
theorem gather_length (b : Nat) (hb : ∀ s, (out s).length ≤ b) : ∀ n s, μ s ≤ n → (gather c step out μ s).length ≤ n * b := by
  intro n
  induction n with
  | zero =>
    intro s hs
    unfold gather
    have e : μ s = 0 := by omega
    rw [e]
    simp [gatherN]
  | succ n ih =>
    intro s hs
    by_cases hc : c s = true
    · rw [gather_step c step out μ hμ s hc, List.length_append]
      have hlt := hμ s hc
      have := ih (step s) (by omega)
      have := hb s
      rw [Nat.add_mul]
      omega
    · rw [gather_stop c step out μ s (by simpa using hc)]
      simp
end

/-- A part is no longer than the whole. -/
theorem part_len {α : Type} {a b c : List α} {n : Nat} (h : a ++ b = c) (hc : c.length ≤ n) : a.length ≤ n := by
  have := congrArg List.length h
  rw [List.length_append] at this
  omega

/-! ## The windows of a side -/

def winX (s y x : Int) : List Rc := gather (fun x : Int => decide (0 < s ∧ x < 40)) (fun x => x + s) (fun x => [⟨x, y, min (x + s) 40, min (y + s) 40⟩]) (fun x => (40 - x).toNat) x
theorem winX_step (s y x : Int) (hs : 0 < s) (hx : x < 40) : winX s y x = [⟨x, y, min (x + s) 40, min (y + s) 40⟩] ++ winX s y (x + s) :=
  gather_step _ _ _ _ (fun x h => by simp at h ⊢; omega) x (by simp [hs, hx])
theorem winX_step' {s y x a b : Int} (hs : 0 < s) (hx : x < 40) (ha : a = min (x + s) 40) (hb : b = min (y + s) 40) : winX s y x = [⟨x, y, a, b⟩] ++ winX s y (x + s) := by
  rw [winX_step s y x hs hx, ha, hb]
theorem winX_stop (s y x : Int) (hx : 40 ≤ x) : winX s y x = [] := gather_stop _ _ _ _ x (by simp; omega)
theorem winX_length (s y x : Int) (n : Nat) (h : 40 - x ≤ n) : (winX s y x).length ≤ n := by
  have := gather_length (fun x : Int => decide (0 < s ∧ x < 40)) (fun x => x + s) (fun x => [(⟨x, y, min (x + s) 40, min (y + s) 40⟩ : Rc)]) (fun x => (40 - x).toNat) (fun x h => by simp at h ⊢; omega) 1 (fun _ => Nat.le_refl _) n x (by omega)
  unfold winX
  omega
def winY (s y : Int) : List Rc := gather (fun y : Int => decide (0 < s ∧ y < 40)) (fun y => y + s) (fun y => winX s y (-40)) (fun y => (40 - y).toNat) y
theorem winY_step (s y : Int) (hs : 0 < s) (hy : y < 40) : winY s y = winX s y (-40) ++ winY s (y + s) :=
  gather_step _ _ _ _ (fun y h => by simp at h ⊢; omega) y (by simp [hs, hy])
theorem winY_stop (s y : Int) (hy : 40 ≤ y) : winY s y = [] := gather_stop _ _ _ _ y (by simp; omega)
theorem winY_length (s : Int) : (winY s (-40)).length ≤ 6400 := by
  have := gather_length (fun y : Int => decide (0 < s ∧ y < 40)) (fun y => y + s) (fun y => winX s y (-40)) (fun y => (40 - y).toNat) (fun y h => by simp at h ⊢; omega) 80 (fun y => winX_length s y (-40) 80 (by omega)) 80 (-40) (by omega)
  unfold winY
  omega
/-- The windows of a side. -/
def wins (s : Int) : List Rc := if 4 ≤ s ∧ s ≤ 40 then winY s (-40) else []

end Go.Proofs.Ythifinolgbjekaa
