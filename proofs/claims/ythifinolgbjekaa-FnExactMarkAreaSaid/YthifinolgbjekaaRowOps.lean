/- A row of flags is loaded whole, and two rows are compared, in one step of the walk. No conditions. -/
import Derived.Test.YthifinolgbjekaaPut
import Derived.Test.YthifinolgbjekaaRowMath
namespace Go.Proofs.Ythifinolgbjekaa
open Go.RowKit

/-- The row y of a set, as a value. -/
def rowA (G : Gr) (y : Nat) : Array Value := ((List.range 80).map fun x => Value.bool (G (y * 80 + x))).toArray
theorem rowA_size (G : Gr) (y : Nat) : (rowA G y).size = 80 := by simp [rowA]
theorem rowA_get (G : Gr) (y x : Nat) (h : x < 80) : (rowA G y)[x]? = some (.bool (G (y * 80 + x))) := by simp [rowA, h]
theorem rowA_list (G : Gr) (y : Nat) : (rowA G y).toList = (List.range 80).map fun x => Value.bool (G (y * 80 + x)) := by simp [rowA]

theorem infoRow : (Try.prog.info? 60).map (·.size) = some 80 := by kernel_rfl

theorem run_load_row {w : World} {g : Nat} {t : TypeId} {G : Gr} (h : GB w g t G) {y : Nat} (hy : y < 80) : (loadVar 60 ⟨g, y * 80, none⟩).run Try.prog w = .ok (.agg (rowA G y)) w := by
  have hl : (loadCells ⟨g, y * 80, none⟩ (rowA G y).toList.length).run Try.prog w = .ok (rowA G y).toList.toArray w :=
    run_loadCells_list w _ _ (fun j v hv => by
      have hj : j < 80 := by
        have := (List.getElem?_eq_some_iff.1 hv).1
        rw [Array.length_toList, rowA_size] at this
        exact this
      rw [Addr.add_lit, h.cell (by omega), ← hv, Array.getElem?_toList, rowA_get G y j hj])
  cases hq : Try.prog.info? 60 with
  | none => have := infoRow; rw [hq] at this; simp at this
  | some i =>
    have hs : i.size = 80 := by have := infoRow; rw [hq] at this; simpa using this
    have hagg : (isAgg 60).run Try.prog w = .ok true w := by
      unfold isAgg
      rw [Sem.run_bind, run_underlying Try.underlying60 w]
      rfl
    simp only [Array.length_toList, Array.toArray_toList, rowA_size] at hl
    simp [loadVar, Sem.run_bind, hagg, sizeOf, typeInfo, hq, hs, hl]

theorem run_part_bool {w : World} {cs : Array Value} {j : Nat} {b : Bool} (h : cs[j]? = some (.bool b)) : (part 4 cs j).run Try.prog w = .ok (.bool b) w := by
  have hagg : (isAgg 4).run Try.prog w = .ok false w := by
    unfold isAgg
    rw [Sem.run_bind, run_underlying Try.underlying4 w]
    rfl
  simp [part, Sem.run_bind, hagg, h]

theorem run_eq_bools (w : World) (d d' : Nat) (hd : d' = d + 1) (xs ys : Array Value) (p q : Nat → Bool) (hx : ∀ j, j < 80 → xs[j]? = some (.bool (p j))) (hy : ∀ j, j < 80 → ys[j]? = some (.bool (q j))) :
    (Op.equalIn (d' + 1) 60 (.agg xs) (.agg ys)).run Try.prog w = .ok ((List.range 80).all fun j => p j == q j) w := by
  obtain ⟨i, hi, hz, hsz, hby⟩ := info_parts infoBool
  have hsize : (sizeOf 4).run Try.prog w = .ok 1 w := by simp [sizeOf, typeInfo, hi, hsz]
  simp only [Op.equalIn, Sem.run_bind, run_underlying Try.underlying60, Result.andThen_ok, hsize]
  rw [Std.Legacy.Range.forIn_eq_forIn_range']
  have e : List.range' (([0:80] : Std.Legacy.Range)).start (([0:80] : Std.Legacy.Range)).size (([0:80] : Std.Legacy.Range)).step = List.range 80 := by
    rw [List.range_eq_range']
    rfl
  rw [e]
  have hb : ∀ j ∈ List.range 80, j < 80 := fun j hj => List.mem_range.1 hj
  generalize List.range 80 = l at hb
  clear e
  induction l with
  | nil => simp
  | cons j l ih =>
    have hj : j < 80 := hb j (by simp)
    have hpx : (part 4 xs (j * 1)).run Try.prog w = .ok (.bool (p j)) w := run_part_bool (by rw [Nat.mul_one]; exact hx j hj)
    have hpy : (part 4 ys (j * 1)).run Try.prog w = .ok (.bool (q j)) w := run_part_bool (by rw [Nat.mul_one]; exact hy j hj)
    have heq : (Op.equalIn d' 4 (.bool (p j)) (.bool (q j))).run Try.prog w = .ok (p j == q j) w := by rw [hd]; exact run_equalIn_bool' w d _ _ _ Try.underlying4
    have ih' := ih (fun k hk => hb k (by simp [hk]))
    simp only [List.forIn_cons, Sem.run_bind, hpx, hpy, heq, Result.andThen_ok, List.all_cons]
    cases hc : (p j == q j)
    · simp
    · simp only [Bool.not_true, Bool.false_eq_true, if_false, Sem.run_pure, Result.andThen_ok, Bool.true_and]
      exact ih'

/-- Two rows of a set are compared. -/
theorem run_eql_rows (w : World) (G : Gr) (a b : Nat) : (binOp .eql 60 (.agg (rowA G a)) (.agg (rowA G b))).run Try.prog w = .ok (.bool (rowEq G a b)) w := by
  rw [run_eql_struct, run_eq_bools w 9998 9999 rfl _ _ _ _ (fun j hj => rowA_get G a j hj) (fun j hj => rowA_get G b j hj)]
  rfl

section
variable {P : Program} {C : World → Prop} {a : Act} {o : Oper} {K : Act → Prop}
/-- A load that reads whole, as a step of a quiet walk. -/
theorem quiet_load (ty : TypeId) (x : Operand) (ho : o.op = .load ty x) (ad : Addr) (hx : a.eval x = .pointer (some ad)) (v : Value) (hrun : ∀ w, C w → (loadVar ty ad).run P w = .ok v w) (hk : K (a.put o.dst v)) : o.quiet P a C K := by
  refine ⟨v, fun w hw => ?_, hk⟩
  unfold Oper.quietAt execOp
  simp only [ho, hx, Instr.loadAt, Instr.sureAddr, Sem.run_bind, Sem.run_pure, Result.andThen_ok, hrun w hw]
  exact ⟨rfl, rfl⟩
theorem quiet_eql (t t' : TypeId) (x y : Operand) (ho : o.op = .binOp .eql t x y t') (xs ys : Array Value) (hx : a.eval x = .agg xs) (hy : a.eval y = .agg ys) (hg : P.eqGuardType P.depth t = false) (b : Bool)
    (hrun : ∀ w, (binOp .eql t (.agg xs) (.agg ys)).run P w = .ok (.bool b) w) (hk : K (a.put o.dst (.bool b))) : o.quiet P a C K := by
  refine ⟨_, fun w hw => ?_, hk⟩
  unfold Oper.quietAt execOp
  simp only [ho, hx, hy, Sem.run_bind, run_eqGuard_agg w .eql t x y xs ys hg, Sem.run_pure, Result.andThen_ok, hrun w]
  exact ⟨rfl, rfl⟩
end

end Go.Proofs.Ythifinolgbjekaa
