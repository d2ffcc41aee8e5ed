/- '==' and '!=' on rectangles, in one step of the walk. No conditions. -/
import Derived.Test.YthifinolgbjekaaScal
namespace Go.Proofs.Ythifinolgbjekaa
open Go.RowKit

section
variable {P : Program} (w : World)
@[go_sem high] theorem run_max_i (ts : Array TypeId) (t : TypeId) (k k' : IntKind) (x y : Int) : (Builtin.max_ ts t #[.int k x, .int k' y]).run P w = .ok (.int k (max x y)) w := by
  rw [run_max_int2]
  have e : (if y > x then y else x) = max x y := by split <;> omega
  rw [e]
@[go_sem high] theorem run_min_i (ts : Array TypeId) (t : TypeId) (k k' : IntKind) (x y : Int) : (Builtin.min_ ts t #[.int k x, .int k' y]).run P w = .ok (.int k (min x y)) w := by
  rw [run_min_int2]
  have e : (if y < x then y else x) = min x y := by split <;> omega
  rw [e]
end

/-- Two rectangles are equal. -/
def eqRc (p q : Rc) : Bool := decide (p = q)
theorem eqRc_iff (p q : Rc) : eqRc p q = true ↔ p = q := by simp [eqRc]
theorem eqRc_no (p q : Rc) : eqRc p q = false ↔ p ≠ q := by simp [eqRc]

theorem run_equal_R (a b c d a' b' c' d' : Int) (w : World) :
    (Op.equalIn 10000 37 (.agg #[.int .i64 a, .int .i64 b, .int .i64 c, .int .i64 d]) (.agg #[.int .i64 a', .int .i64 b', .int .i64 c', .int .i64 d'])).run Try.prog w = .ok (eqRc ⟨a, b, c, d⟩ ⟨a', b', c', d'⟩) w := by
  by_cases h0 : a = a'
  · by_cases h1 : b = b'
    · by_cases h2 : c = c'
      · by_cases h3 : d = d'
        · simp [go_sem, eqRc, h0, h1, h2, h3]
        · simp [go_sem, eqRc, h0, h1, h2, h3]
      · simp [go_sem, eqRc, h0, h1, h2]
    · simp [go_sem, eqRc, h0, h1]
  · simp [go_sem, eqRc, h0]

@[go_sem high] theorem run_neq_R (a b c d a' b' c' d' : Int) (w : World) :
    (binOp .neq 37 (.agg #[.int .i64 a, .int .i64 b, .int .i64 c, .int .i64 d]) (.agg #[.int .i64 a', .int .i64 b', .int .i64 c', .int .i64 d'])).run Try.prog w = .ok (.bool (!eqRc ⟨a, b, c, d⟩ ⟨a', b', c', d'⟩)) w := by
  rw [run_neq_struct, run_equal_R]
  rfl
@[go_sem high] theorem run_eql_R (a b c d a' b' c' d' : Int) (w : World) :
    (binOp .eql 37 (.agg #[.int .i64 a, .int .i64 b, .int .i64 c, .int .i64 d]) (.agg #[.int .i64 a', .int .i64 b', .int .i64 c', .int .i64 d'])).run Try.prog w = .ok (.bool (eqRc ⟨a, b, c, d⟩ ⟨a', b', c', d'⟩)) w := by
  rw [run_eql_struct, run_equal_R]
  rfl

end Go.Proofs.Ythifinolgbjekaa
