/- The law's helpers: marks on shapes, labels, instances; texts of marks; equality of text errors. Conditions: lists in memory. The law's marks of a list of cells and of a library. Conditions: a library in memory whose cells' lists lie apart. -/
import Derived.Test.YtljfpeipcfankaaGreatDoorLibC
import Derived.Test.YtljfpeipcfankaaGreatDoorParseK
import Derived.Deep.RegionHeld3
namespace Go.Proofs.YtljfpeipcfankaaGreatDoor
open Go.RowKit

/-! ## Marks -/
def mkG {α : Type} (f : Int → α) (step : Int) (k : Int) (n : Nat) : List α := (List.range n).map fun (i : Nat) => f (k + step * i)
section
variable {α : Type} (f : Int → α) (step k : Int)
theorem mkG_length (n : Nat) : (mkG f step k n).length = n := by simp [mkG]
theorem mkG_get (n i : Nat) (h : i < n) : (mkG f step k n)[i]? = some (f (k + step * i)) := by simp [mkG, h]
def mixG (xs : List α) (j : Nat) : List α := mkG f step k j ++ xs.drop j
theorem mixG_length (xs : List α) (j : Nat) (h : j ≤ xs.length) : (mixG f step k xs j).length = xs.length := by
  simp only [mixG, List.length_append, mkG_length, List.length_drop]; omega
theorem mixG_step (xs : List α) (j : Nat) (h : j < xs.length) : (mixG f step k xs j).set j (f (k + step * j)) = mixG f step k xs (j + 1) := by
  have e : xs.drop j = xs[j] :: xs.drop (j + 1) := List.drop_eq_getElem_cons h
  have e2 : mkG f step k (j + 1) = mkG f step k j ++ [f (k + step * j)] := by simp [mkG, List.range_succ]
  unfold mixG
  rw [List.set_append_right _ _ (by rw [mkG_length]; exact Nat.le_refl _), mkG_length, Nat.sub_self, e, List.set_cons_zero, e2, List.append_assoc]
  rfl
theorem mixG_end (xs : List α) : mixG f step k xs xs.length = mkG f step k xs.length := by simp [mixG]
theorem mixG_zero (xs : List α) : mixG f step k xs 0 = xs := by simp [mixG, mkG]
end
/-- The text of a mark. -/
def mtx (k : Int) : ByteArray := ⟨#[109]⟩ ++ ⟨(Lib.decDigits k.natAbs).toArray⟩
def shM (k : Int) : ShapeD := ⟨k, ⟨k + 1, k + 2, k + 3, k + 4⟩⟩
def laM (k : Int) : LabelD := ⟨k, k + 1, k + 2, mtx (k + 3)⟩
def inM (k : Int) : InstD := ⟨k, k + 1, k + 2, k + 3, k + 4, k + 5, k + 6, k + 7⟩
theorem grownB_of {w w' : World} (h : Below w.heap.size w w') (row : Option Nat) : w.grownBy w' row := ⟨h.os, h.tape, h.output, h.size, fun k hk _ => h.block k hk⟩
theorem grownB_trans {w w1 w2 : World} {row : Option Nat} (h : w.grownBy w1 row) (h2 : w1.grownBy w2 row) : w.grownBy w2 row :=
  ⟨h2.os.trans h.os, h2.tape.trans h.tape, h2.output.trans h.output, Nat.le_trans h.size h2.size, fun k hk hne => (h2.block k (Nat.lt_of_lt_of_le hk h.size) hne).trans (h.block k hk hne)⟩
theorem grownB_set {w w' : World} {g : Nat} (h : w.grownBy w' (some g)) (i : Nat) (x : Value) : w.grownBy (w'.setCell ⟨g, i, none⟩ x) (some g) :=
  grownB_trans h ⟨rfl, rfl, rfl, by simp [World.setCell], fun k _ hk => Below.heap_setCell _ _ _ _ (fun e => hk (by rw [e]))⟩
theorem grownB_put {w w' : World} {g : Nat} (us : List Value) (o : Nat) (h : w.grownBy w' (some g)) : w.grownBy (putW w' g o us) (some g) := by
  induction us generalizing w' o with
  | nil => exact h
  | cons u us ih => exact ih (o + 1) (grownB_set h o u)

set_option maxHeartbeats 800000 in
set_option maxRecDepth 100000 in
theorem eqErr_same (a b c : Int) (w : World) : Calls Tryz.prog 7 #[.agg #[.int .i64 a, .int .i64 b, .int .i64 c], .agg #[.int .i64 a, .int .i64 b, .int .i64 c]] w fun e w' => e = .returned (.bool true) ∧ Below w.heap.size w w' := by
  go_enter Tryz.func7, Tryz.ntmps7
  go_wp2
  go_ret
  exact ⟨rfl, ((Below.refl _ _).alloc (Nat.le_refl _) _).alloc (by simp) _⟩

set_option maxHeartbeats 1600000 in
set_option maxRecDepth 100000 in
theorem markShapeS_any (v : Value) (xs : List ShapeD) (w : World) (B : Nat) (hv : ShL w B v xs) (k0 : Int) (h0 : 0 ≤ k0) (h1 : k0 ≤ 100000) (hn : xs.length ≤ 1000) :
    Calls Tryz.prog 34 #[v, .int .i64 k0] w fun e w' => e = .returned (.int .i64 (k0 + 5 * xs.length)) ∧ ShL w' B v (mkG shM 5 k0 xs.length) ∧ w.grownBy w' v.ownBlock := by
  obtain ⟨A, c1, rfl, hc1, hm1⟩ := hv.form
  have HV := Lib.hid hv
  clear hv
  go_enter Tryz.func34, Tryz.ntmps34
  go_wp2
  go_loopw [1, 5] (fun kv i wr => ∃ j : Nat, j ≤ xs.length ∧ i = .int .i64 j ∧ kv = .int .i64 (k0 + 5 * j) ∧ ShL wr B (.slice A xs.length c1) (mixG shM 5 k0 xs j) ∧ w.grownBy wr (Value.slice A xs.length c1).ownBlock) (fun _ i _ => xs.length - (intOf i).toNat)
  case atStart => exact ⟨0, Nat.zero_le _, rfl, by simp, by rw [mixG_zero]; exact HV.out, grownB_of (Below.refl _ _) _⟩
  case round =>
    obtain ⟨j, hj, rfl, rfl, hR, hg⟩ := hrel
    by_cases hlt : j < xs.length
    · have hjl : j < (mixG shM 5 k0 xs j).length := by rw [mixG_length shM 5 k0 xs j hj]; exact hlt
      obtain ⟨g, x, rfl, -, -, hgl, hcc⟩ := FL.elem ShapeD.len hR hjl
      obtain ⟨a0, ⟨a1, a2, a3, a4⟩⟩ := x
      have f0 : wr.cell? ⟨g, j * 5, none⟩ = some (.int .i64 a0) := hcc 0 _ rfl
      have f1 : wr.cell? ⟨g, j * 5 + 1, none⟩ = some (.int .i64 a1) := hcc 1 _ rfl
      have f2 : wr.cell? ⟨g, j * 5 + 2, none⟩ = some (.int .i64 a2) := hcc 2 _ rfl
      have f3 : wr.cell? ⟨g, j * 5 + 3, none⟩ = some (.int .i64 a3) := hcc 3 _ rfl
      have f4 : wr.cell? ⟨g, j * 5 + 4, none⟩ = some (.int .i64 a4) := hcc 4 _ rfl
      have z0 := hR.frozen (j * 5)
      have z1 := hR.frozen (j * 5 + 1)
      have z2 := hR.frozen (j * 5 + 2)
      have z3 := hR.frozen (j * 5 + 3)
      have z4 := hR.frozen (j * 5 + 4)
      have HS := Lib.hid (FL.put ShapeD.len hR hjl ⟨k0 + 5 * j, ⟨k0 + 5 * j + 1, k0 + 5 * j + 1 + 1, k0 + 5 * j + 1 + 1 + 1, k0 + 5 * j + 1 + 1 + 1 + 1⟩⟩)
      have HG := Lib.hid (grownB_put (ShapeD.vals ⟨k0 + 5 * j, ⟨k0 + 5 * j + 1, k0 + 5 * j + 1 + 1, k0 + 5 * j + 1 + 1 + 1, k0 + 5 * j + 1 + 1 + 1 + 1⟩⟩) (j * 5) hg)
      have Hst := Lib.hid (mixG_step shM 5 k0 xs j hlt)
      clear hcc hR hg
      go_wp2
      refine ⟨⟨j + 1, by omega, by go_num, by go_num, ?_, HG.out⟩, by simp [intOf]; omega⟩
      rw [← Hst.out]
      have e : shM (k0 + 5 * j) = ⟨k0 + 5 * j, ⟨k0 + 5 * j + 1, k0 + 5 * j + 1 + 1, k0 + 5 * j + 1 + 1 + 1, k0 + 5 * j + 1 + 1 + 1 + 1⟩⟩ := by simp [shM, Int.add_assoc]
      rw [e]
      exact HS.out
    · go_wp2
      go_ret
      obtain rfl : j = xs.length := by omega
      rw [mixG_end] at hR
      exact ⟨rfl, hR, hg⟩

set_option maxHeartbeats 1600000 in
set_option maxRecDepth 100000 in
theorem heldShapeS_any (v : Value) (n : Nat) (w : World) (k0 : Int) (hv : ShL w 0 v (mkG shM 5 k0 n)) (h0 : 0 ≤ k0) (h1 : k0 ≤ 100000) (hn : n ≤ 1000) :
    Calls Tryz.prog 37 #[v, .int .i64 k0] w fun e w' => e = .returned (.int .i64 (k0 + 5 * n)) ∧ Below w.heap.size w w' := by
  obtain ⟨A, c1, rfl, hc1, hm1⟩ := hv.form
  have hl := mkG_length shM 5 k0 n
  rw [hl] at hc1
  have Hv := Lib.hid hv
  have Hl := Lib.hid hl
  rw [hl]
  clear hl hv
  go_enter Tryz.func37, Tryz.ntmps37
  go_wp2
  go_loopw [1, 5] (fun kv i wr => ∃ j : Nat, j ≤ n ∧ i = .int .i64 j ∧ kv = .int .i64 (k0 + 5 * j) ∧ Below w.heap.size w wr) (fun _ i _ => n - (intOf i).toNat)
  case atStart => exact ⟨0, Nat.zero_le _, rfl, by simp, Below.refl _ _⟩
  case round =>
    obtain ⟨j, hj, rfl, rfl, hb⟩ := hrel
    by_cases hlt : j < n
    · obtain ⟨g, x, rfl, hx, -, hgl, hcc⟩ := FL.elem ShapeD.len (Hv.out.on hb) (k := j) (by rw [Hl.out]; exact hlt)
      rw [mkG_get _ _ _ n j hlt] at hx
      obtain rfl := (Option.some.inj hx).symm
      have f0 : wr.cell? ⟨g, j * 5, none⟩ = some (.int .i64 (k0 + 5 * j)) := hcc 0 _ rfl
      have e1 : k0 + 5 * (j : Int) + 1 = k0 + 5 * j + 1 := by omega
      have f1 : wr.cell? ⟨g, j * 5 + 1, none⟩ = some (.int .i64 (k0 + 5 * j + 1)) := by rw [← e1]; exact hcc 1 _ rfl
      have e2 : k0 + 5 * (j : Int) + 2 = k0 + 5 * j + 1 + 1 := by omega
      have f2 : wr.cell? ⟨g, j * 5 + 2, none⟩ = some (.int .i64 (k0 + 5 * j + 1 + 1)) := by rw [← e2]; exact hcc 2 _ rfl
      have e3 : k0 + 5 * (j : Int) + 3 = k0 + 5 * j + 1 + 1 + 1 := by omega
      have f3 : wr.cell? ⟨g, j * 5 + 3, none⟩ = some (.int .i64 (k0 + 5 * j + 1 + 1 + 1)) := by rw [← e3]; exact hcc 3 _ rfl
      have e4 : k0 + 5 * (j : Int) + 4 = k0 + 5 * j + 1 + 1 + 1 + 1 := by omega
      have f4 : wr.cell? ⟨g, j * 5 + 4, none⟩ = some (.int .i64 (k0 + 5 * j + 1 + 1 + 1 + 1)) := by rw [← e4]; exact hcc 4 _ rfl
      clear e1 e2 e3 e4
      clear hcc hx
      go_wp2
      exact ⟨⟨j + 1, by omega, by go_num, by go_num, hb⟩, by simp [intOf]; omega⟩
    · go_wp2
      go_ret
      obtain rfl : j = n := by omega
      exact ⟨rfl, hb⟩

set_option maxHeartbeats 1600000 in
set_option maxRecDepth 100000 in
theorem markInstanceS_any (v : Value) (xs : List InstD) (w : World) (B : Nat) (hv : InL w B v xs) (k0 : Int) (h0 : 0 ≤ k0) (h1 : k0 ≤ 100000) (hn : xs.length ≤ 1000) :
    Calls Tryz.prog 36 #[v, .int .i64 k0] w fun e w' => e = .returned (.int .i64 (k0 + 8 * xs.length)) ∧ InL w' B v (mkG inM 8 k0 xs.length) ∧ w.grownBy w' v.ownBlock := by
  obtain ⟨A, c1, rfl, hc1, hm1⟩ := hv.form
  have HV := Lib.hid hv
  clear hv
  go_enter Tryz.func36, Tryz.ntmps36
  go_wp2
  go_loopw [1, 5] (fun kv i wr => ∃ j : Nat, j ≤ xs.length ∧ i = .int .i64 j ∧ kv = .int .i64 (k0 + 8 * j) ∧ InL wr B (.slice A xs.length c1) (mixG inM 8 k0 xs j) ∧ w.grownBy wr (Value.slice A xs.length c1).ownBlock) (fun _ i _ => xs.length - (intOf i).toNat)
  case atStart => exact ⟨0, Nat.zero_le _, rfl, by simp, by rw [mixG_zero]; exact HV.out, grownB_of (Below.refl _ _) _⟩
  case round =>
    obtain ⟨j, hj, rfl, rfl, hR, hg⟩ := hrel
    by_cases hlt : j < xs.length
    · have hjl : j < (mixG inM 8 k0 xs j).length := by rw [mixG_length inM 8 k0 xs j hj]; exact hlt
      obtain ⟨g, x, rfl, -, -, hgl, hcc⟩ := FL.elem InstD.len hR hjl
      obtain ⟨a0, a1, a2, a3, a4, a5, a6, a7⟩ := x
      have f0 : wr.cell? ⟨g, j * 8, none⟩ = some (.int .i64 a0) := hcc 0 _ rfl
      have f1 : wr.cell? ⟨g, j * 8 + 1, none⟩ = some (.int .i64 a1) := hcc 1 _ rfl
      have f2 : wr.cell? ⟨g, j * 8 + 2, none⟩ = some (.int .i64 a2) := hcc 2 _ rfl
      have f3 : wr.cell? ⟨g, j * 8 + 3, none⟩ = some (.int .i64 a3) := hcc 3 _ rfl
      have f4 : wr.cell? ⟨g, j * 8 + 4, none⟩ = some (.int .i64 a4) := hcc 4 _ rfl
      have f5 : wr.cell? ⟨g, j * 8 + 5, none⟩ = some (.int .i64 a5) := hcc 5 _ rfl
      have f6 : wr.cell? ⟨g, j * 8 + 6, none⟩ = some (.int .i64 a6) := hcc 6 _ rfl
      have f7 : wr.cell? ⟨g, j * 8 + 7, none⟩ = some (.int .i64 a7) := hcc 7 _ rfl
      have z0 := hR.frozen (j * 8)
      have z1 := hR.frozen (j * 8 + 1)
      have z2 := hR.frozen (j * 8 + 2)
      have z3 := hR.frozen (j * 8 + 3)
      have z4 := hR.frozen (j * 8 + 4)
      have z5 := hR.frozen (j * 8 + 5)
      have z6 := hR.frozen (j * 8 + 6)
      have z7 := hR.frozen (j * 8 + 7)
      have HS := Lib.hid (FL.put InstD.len hR hjl ⟨k0 + 8 * j, k0 + 8 * j + 1, k0 + 8 * j + 1 + 1, k0 + 8 * j + 1 + 1 + 1, k0 + 8 * j + 1 + 1 + 1 + 1, k0 + 8 * j + 1 + 1 + 1 + 1 + 1, k0 + 8 * j + 1 + 1 + 1 + 1 + 1 + 1, k0 + 8 * j + 1 + 1 + 1 + 1 + 1 + 1 + 1⟩)
      have HG := Lib.hid (grownB_put (InstD.vals ⟨k0 + 8 * j, k0 + 8 * j + 1, k0 + 8 * j + 1 + 1, k0 + 8 * j + 1 + 1 + 1, k0 + 8 * j + 1 + 1 + 1 + 1, k0 + 8 * j + 1 + 1 + 1 + 1 + 1, k0 + 8 * j + 1 + 1 + 1 + 1 + 1 + 1, k0 + 8 * j + 1 + 1 + 1 + 1 + 1 + 1 + 1⟩) (j * 8) hg)
      have Hst := Lib.hid (mixG_step inM 8 k0 xs j hlt)
      clear hcc hR hg
      go_wp2
      refine ⟨⟨j + 1, by omega, by go_num, by go_num, ?_, HG.out⟩, by simp [intOf]; omega⟩
      rw [← Hst.out]
      have e : inM (k0 + 8 * j) = ⟨k0 + 8 * j, k0 + 8 * j + 1, k0 + 8 * j + 1 + 1, k0 + 8 * j + 1 + 1 + 1, k0 + 8 * j + 1 + 1 + 1 + 1, k0 + 8 * j + 1 + 1 + 1 + 1 + 1, k0 + 8 * j + 1 + 1 + 1 + 1 + 1 + 1, k0 + 8 * j + 1 + 1 + 1 + 1 + 1 + 1 + 1⟩ := by simp [inM, Int.add_assoc]
      rw [e]
      exact HS.out
    · go_wp2
      go_ret
      obtain rfl : j = xs.length := by omega
      rw [mixG_end] at hR
      exact ⟨rfl, hR, hg⟩

set_option maxHeartbeats 1600000 in
set_option maxRecDepth 100000 in
theorem heldInstanceS_any (v : Value) (n : Nat) (w : World) (k0 : Int) (hv : InL w 0 v (mkG inM 8 k0 n)) (h0 : 0 ≤ k0) (h1 : k0 ≤ 100000) (hn : n ≤ 1000) :
    Calls Tryz.prog 39 #[v, .int .i64 k0] w fun e w' => e = .returned (.int .i64 (k0 + 8 * n)) ∧ Below w.heap.size w w' := by
  obtain ⟨A, c1, rfl, hc1, hm1⟩ := hv.form
  have hl := mkG_length inM 8 k0 n
  rw [hl] at hc1
  have Hv := Lib.hid hv
  have Hl := Lib.hid hl
  rw [hl]
  clear hl hv
  go_enter Tryz.func39, Tryz.ntmps39
  go_wp2
  go_loopw [1, 5] (fun kv i wr => ∃ j : Nat, j ≤ n ∧ i = .int .i64 j ∧ kv = .int .i64 (k0 + 8 * j) ∧ Below w.heap.size w wr) (fun _ i _ => n - (intOf i).toNat)
  case atStart => exact ⟨0, Nat.zero_le _, rfl, by simp, Below.refl _ _⟩
  case round =>
    obtain ⟨j, hj, rfl, rfl, hb⟩ := hrel
    by_cases hlt : j < n
    · obtain ⟨g, x, rfl, hx, -, hgl, hcc⟩ := FL.elem InstD.len (Hv.out.on hb) (k := j) (by rw [Hl.out]; exact hlt)
      rw [mkG_get _ _ _ n j hlt] at hx
      obtain rfl := (Option.some.inj hx).symm
      have f0 : wr.cell? ⟨g, j * 8, none⟩ = some (.int .i64 (k0 + 8 * j)) := hcc 0 _ rfl
      have e1 : k0 + 8 * (j : Int) + 1 = k0 + 8 * j + 1 := by omega
      have f1 : wr.cell? ⟨g, j * 8 + 1, none⟩ = some (.int .i64 (k0 + 8 * j + 1)) := by rw [← e1]; exact hcc 1 _ rfl
      have e2 : k0 + 8 * (j : Int) + 2 = k0 + 8 * j + 1 + 1 := by omega
      have f2 : wr.cell? ⟨g, j * 8 + 2, none⟩ = some (.int .i64 (k0 + 8 * j + 1 + 1)) := by rw [← e2]; exact hcc 2 _ rfl
      have e3 : k0 + 8 * (j : Int) + 3 = k0 + 8 * j + 1 + 1 + 1 := by omega
      have f3 : wr.cell? ⟨g, j * 8 + 3, none⟩ = some (.int .i64 (k0 + 8 * j + 1 + 1 + 1)) := by rw [← e3]; exact hcc 3 _ rfl
      have e4 : k0 + 8 * (j : Int) + 4 = k0 + 8 * j + 1 + 1 + 1 + 1 := by omega
      have f4 : wr.cell? ⟨g, j * 8 + 4, none⟩ = some (.int .i64 (k0 + 8 * j + 1 + 1 + 1 + 1)) := by rw [← e4]; exact hcc 4 _ rfl
      have e5 : k0 + 8 * (j : Int) + 5 = k0 + 8 * j + 1 + 1 + 1 + 1 + 1 := by omega
      have f5 : wr.cell? ⟨g, j * 8 + 5, none⟩ = some (.int .i64 (k0 + 8 * j + 1 + 1 + 1 + 1 + 1)) := by rw [← e5]; exact hcc 5 _ rfl
      have e6 : k0 + 8 * (j : Int) + 6 = k0 + 8 * j + 1 + 1 + 1 + 1 + 1 + 1 := by omega
      have f6 : wr.cell? ⟨g, j * 8 + 6, none⟩ = some (.int .i64 (k0 + 8 * j + 1 + 1 + 1 + 1 + 1 + 1)) := by rw [← e6]; exact hcc 6 _ rfl
      have e7 : k0 + 8 * (j : Int) + 7 = k0 + 8 * j + 1 + 1 + 1 + 1 + 1 + 1 + 1 := by omega
      have f7 : wr.cell? ⟨g, j * 8 + 7, none⟩ = some (.int .i64 (k0 + 8 * j + 1 + 1 + 1 + 1 + 1 + 1 + 1)) := by rw [← e7]; exact hcc 7 _ rfl
      clear e1 e2 e3 e4 e5 e6 e7
      clear hcc hx
      go_wp2
      exact ⟨⟨j + 1, by omega, by go_num, by go_num, hb⟩, by simp [intOf]; omega⟩
    · go_wp2
      go_ret
      obtain rfl : j = n := by omega
      exact ⟨rfl, hb⟩

set_option maxHeartbeats 1600000 in
set_option maxRecDepth 100000 in
theorem markText_any (k : Int) (w : World) (h1 : 1 ≤ k) (h2 : k ≤ 1000000) :
    Calls Tryz.prog 33 #[.int .i64 k] w fun e w' => e = .returned (.string (mtx k)) ∧ Below w.heap.size w w' := by
  have HD := Lib.hid (digTo_start (n := k) (by omega))
  have HL := Lib.hid (@dig_len k.natAbs (by omega))
  obtain ⟨z0, hz0⟩ : ∃ z : ByteArray, z = ⟨#[]⟩ := ⟨_, rfl⟩
  go_enter Tryz.func33, Tryz.ntmps33
  go_wp2
  go_loopw [0, 3] (fun kv ov wr => ∃ (m : Int) (z : ByteArray) (bs : List UInt8), kv = .int .i64 m ∧ 0 ≤ m ∧ m ≤ 1000000 ∧ ov = .string z ∧ Hid (z = ⟨bs.toArray⟩) ∧ Hid (digTo m bs = Lib.decDigits k.natAbs) ∧ Below w.heap.size w wr) (fun kv _ _ => (intOf kv).natAbs)
  case atStart => exact ⟨k, ⟨#[]⟩, [], rfl, by omega, h2, rfl, Lib.hid rfl, HD, Below.refl _ _⟩
  case round =>
    obtain ⟨m, z, bs, rfl, hm0, hm1, rfl, Hz, Hd, hb⟩ := hrel
    have hlen := @digTo_len m bs
    rw [Hd.out] at hlen
    have hzs : z.size ≤ 20 := by
      rw [Hz.out]
      have := Nat.le_trans hlen HL.out
      simpa [ByteArray.size] using this
    clear hlen
    by_cases hmz : m = 0
    · subst hmz
      have HE : Hid (mtx k = ⟨#[109]⟩ ++ z) := Lib.hid (by have h := Hd.out; rw [digTo_zero] at h; rw [mtx, Hz.out, h])
      have hnn : ¬ (9223372036854775807 < 1 + z.size) := by omega
      go_wp2
      go_ret
      exact ⟨by rw [HE.out]; rfl, hb⟩
    · have Hst := Lib.hid (digTo_step hmz bs)
      obtain ⟨d, hdd⟩ : ∃ d : Nat, d = m.natAbs % 10 := ⟨_, rfl⟩
      have hd9 : d ≤ 9 := by omega
      have eb : ((UInt8.ofNat (48 + d)).toNat : Int) = 48 + (d : Int) := by
        rw [UInt8.toNat_ofNat']
        omega
      have o3 := BY.lit1 wr (B := 0) (Nat.zero_le _) (UInt8.ofNat (48 + d))
      rw [eb] at o3
      have hcv := run_string_Y o3 (by simp)
      obtain ⟨y, hy⟩ : ∃ y : ByteArray, (⟨[UInt8.ofNat (48 + d)].toArray⟩ : ByteArray) = y := ⟨_, rfl⟩
      rw [hy] at hcv
      have hys : y.size ≤ 1 := by rw [← hy]; exact Nat.le_refl _
      have Hy := Lib.hid hy
      rw [← hdd] at Hst
      have hmod : m % 10 = (d : Int) := by omega
      have hquo : m / 10 = m.tdiv 10 := by rw [Int.tdiv_eq_ediv_of_nonneg (by omega)]
      have hq1 : 0 ≤ m.tdiv 10 := by omega
      have hq2 : m.tdiv 10 ≤ 1000000 := by omega
      have hmm : (m.tdiv 10).natAbs < m.natAbs := by rw [Int.natAbs_tdiv]; exact Nat.div_lt_self (by omega) (by decide)
      have HQ := Lib.hid (And.intro hmm (And.intro hq1 hq2))
      have hpos : 0 < m := by omega
      have hnn : ¬ (9223372036854775807 < y.size + z.size) := by omega
      have b3 := hb.alloc hb.size (.cells #[.int .u8 (48 + (d : Int))] 5)
      have Hn : Hid (y ++ z = ⟨(UInt8.ofNat (48 + d) :: bs).toArray⟩) := Lib.hid (by rw [← Hy.out, Hz.out, ByteArray.mk_append_mk]; rfl)
      have Hd2 : Hid (digTo (m.tdiv 10) (UInt8.ofNat (48 + d) :: bs) = Lib.decDigits k.natAbs) := Lib.hid (by rw [← Hst.out]; exact Hd.out)
      clear hdd hy eb o3 hb hmm hq1 hq2
      go_wp2
      go_roundw
      case rel => exact ⟨m.tdiv 10, _, _, rfl, HQ.out.2.1, HQ.out.2.2, rfl, Hn, Hd2, b3⟩
      case measure => exact HQ.out.1

set_option maxHeartbeats 1600000 in
set_option maxRecDepth 100000 in
theorem markLabelS_any (v : Value) (xs : List LabelD) (w : World) (B : Nat) (hv : LaL w B v xs) (k0 : Int) (h0 : 1 ≤ k0) (h1 : k0 ≤ 100000) (hn : xs.length ≤ 1000) :
    Calls Tryz.prog 35 #[v, .int .i64 k0] w fun e w' => e = .returned (.int .i64 (k0 + 4 * xs.length)) ∧ LaL w' B v (mkG laM 4 k0 xs.length) ∧ w.grownBy w' v.ownBlock := by
  obtain ⟨A, c1, rfl, hc1, hm1⟩ := hv.form
  have HV := Lib.hid hv
  clear hv
  go_enter Tryz.func35, Tryz.ntmps35
  go_wp2
  go_loopw [1, 5] (fun kv i wr => ∃ j : Nat, j ≤ xs.length ∧ i = .int .i64 j ∧ kv = .int .i64 (k0 + 4 * j) ∧ LaL wr B (.slice A xs.length c1) (mixG laM 4 k0 xs j) ∧ w.grownBy wr (Value.slice A xs.length c1).ownBlock) (fun _ i _ => xs.length - (intOf i).toNat)
  case atStart => exact ⟨0, Nat.zero_le _, rfl, by simp, by rw [mixG_zero]; exact HV.out, grownB_of (Below.refl _ _) _⟩
  case round =>
    obtain ⟨j, hj, rfl, rfl, hR, hg⟩ := hrel
    by_cases hlt : j < xs.length
    · have hjl : j < (mixG laM 4 k0 xs j).length := by rw [mixG_length laM 4 k0 xs j hj]; exact hlt
      obtain ⟨g, x, rfl, -, -, hgl, hcc⟩ := FL.elem LabelD.len hR hjl
      obtain ⟨a0, a1, a2, a3⟩ := x
      have f0 : wr.cell? ⟨g, j * 4, none⟩ = some (.int .i64 a0) := hcc 0 _ rfl
      have f1 : wr.cell? ⟨g, j * 4 + 1, none⟩ = some (.int .i64 a1) := hcc 1 _ rfl
      have f2 : wr.cell? ⟨g, j * 4 + 2, none⟩ = some (.int .i64 a2) := hcc 2 _ rfl
      have f3 : wr.cell? ⟨g, j * 4 + 3, none⟩ = some (.string a3) := hcc 3 _ rfl
      have z0 := hR.frozen (j * 4)
      have z1 := hR.frozen (j * 4 + 1)
      have z2 := hR.frozen (j * 4 + 2)
      have z3 := hR.frozen (j * 4 + 3)
      obtain ⟨w0, hw0⟩ : ∃ w0, w0 = ((wr.setCell ⟨g, j * 4, none⟩ (.int .i64 (k0 + 4 * j))).setCell ⟨g, j * 4 + 1, none⟩ (.int .i64 (k0 + 4 * j + 1))).setCell ⟨g, j * 4 + 2, none⟩ (.int .i64 (k0 + 4 * j + 1 + 1)) := ⟨_, rfl⟩
      have h3 : putW wr g (j * 4) (LabelD.vals ⟨k0 + 4 * j, k0 + 4 * j + 1, k0 + 4 * j + 1 + 1, a3⟩) = w0.setCell ⟨g, j * 4 + 3, none⟩ (.string a3) := by rw [hw0]; rfl
      have hS := FL.put LabelD.len hR hjl ⟨k0 + 4 * j, k0 + 4 * j + 1, k0 + 4 * j + 1 + 1, a3⟩
      have hG := grownB_set (grownB_set (grownB_set hg (j * 4) (.int .i64 (k0 + 4 * j))) (j * 4 + 1) (.int .i64 (k0 + 4 * j + 1))) (j * 4 + 2) (.int .i64 (k0 + 4 * j + 1 + 1))
      rw [← hw0] at hG
      have HR := Lib.hid hR
      have HG := Lib.hid hG
      have Hst := Lib.hid (mixG_step laM 4 k0 xs j hlt)
      have Hw0 := Lib.hid hw0
      clear hcc hR hg hS h3 hG hw0
      go_wp2_with fail
      rw [← Hw0.out]
      refine (markText_any (k0 + 4 * j + 1 + 1 + 1) _ (by omega) (by omega)).mono ?_
      rintro e w5 ⟨rfl, hb5⟩
      have hS3 : w0.ownsRow B 82 4 (.slice (some ⟨g, 0, none⟩) xs.length c1) (mixG laM 4 k0 xs j).length (putAll ((mixG laM 4 k0 xs j).flatMap LabelD.vals) (j * 4) [.int .i64 (k0 + 4 * j), .int .i64 (k0 + 4 * j + 1), .int .i64 (k0 + 4 * j + 1 + 1)]) := by
        rw [Hw0.out]
        exact own_put (n := xs.length) (c := c1) [.int .i64 (k0 + 4 * j), .int .i64 (k0 + 4 * j + 1), .int .i64 (k0 + 4 * j + 1 + 1)] (j * 4) HR.out
      have hS5 := own_on hS3 hb5
      have hS6 : LaL (w5.setCell ⟨g, j * 4 + 3, none⟩ (.string (mtx (k0 + 4 * j + 1 + 1 + 1)))) B (.slice (some ⟨g, 0, none⟩) xs.length c1) ((mixG laM 4 k0 xs j).set j ⟨k0 + 4 * j, k0 + 4 * j + 1, k0 + 4 * j + 1 + 1, mtx (k0 + 4 * j + 1 + 1 + 1)⟩) := by
        have h := own_put [.string (mtx (k0 + 4 * j + 1 + 1 + 1))] (j * 4 + 3) hS5
        show World.ownsRow _ _ _ _ _ _ _
        rw [← flat_put LabelD.len _ j ⟨k0 + 4 * j, k0 + 4 * j + 1, k0 + 4 * j + 1 + 1, mtx (k0 + 4 * j + 1 + 1 + 1)⟩ hjl, List.length_set]
        exact h
      have HS6 := Lib.hid hS6
      have HG6 := Lib.hid (grownB_set (grownB_trans HG.out (grownB_of hb5 _)) (j * 4 + 3) (.string (mtx (k0 + 4 * j + 1 + 1 + 1))))
      have hgl0 : g < w0.heap.size := by rw [Hw0.out]; simpa [World.setCell] using hgl
      have y3 : w5.cell? ⟨g, j * 4 + 3, none⟩ = some (.string a3) := (hb5.cell (p := ⟨g, j * 4 + 3, none⟩) hgl0).trans (by rw [Hw0.out]; simp [go_sem, f3])
      have z5 : w5.frozen? ⟨g, j * 4 + 3, none⟩ = false := (hb5.frozen (p := ⟨g, j * 4 + 3, none⟩) hgl0).trans (by rw [Hw0.out]; simp [go_sem, z3])
      have hgl5 : g < w5.heap.size := Nat.lt_of_lt_of_le hgl0 hb5.size
      clear hS3 hS5 hS6 hb5 f0 f1 f2 f3 z0 z1 z2 z3
      go_wp2
      refine ⟨⟨j + 1, by omega, by go_num, by go_num, ?_, HG6.out⟩, by simp [intOf]; omega⟩
      rw [← Hst.out]
      have e : laM (k0 + 4 * j) = ⟨k0 + 4 * j, k0 + 4 * j + 1, k0 + 4 * j + 1 + 1, mtx (k0 + 4 * j + 1 + 1 + 1)⟩ := by simp [laM, Int.add_assoc]
      rw [e]
      exact HS6.out
    · go_wp2
      go_ret
      obtain rfl : j = xs.length := by omega
      rw [mixG_end] at hR
      exact ⟨rfl, hR, hg⟩

end Go.Proofs.YtljfpeipcfankaaGreatDoor

namespace Go.Proofs.YtljfpeipcfankaaGreatDoor
open Go.RowKit

def cellN (c : CellD) : Int := 1 + 5 * c.shapes.length + 4 * c.labels.length + 8 * c.insts.length
def mkCell (k : Int) (c : CellD) : CellD := ⟨mtx k, mkG shM 5 (k + 1) c.shapes.length, mkG laM 4 (k + 1 + 5 * c.shapes.length) c.labels.length, mkG inM 8 (k + 1 + 5 * c.shapes.length + 4 * c.labels.length) c.insts.length⟩
def mkAll : Int → List (CellD × Sl3) → List (CellD × Sl3)
  | _, [] => []
  | k, p :: r => (mkCell k p.1, p.2) :: mkAll (k + cellN p.1) r
def kAt (k : Int) : List (CellD × Sl3) → Nat → Int
  | [], _ => k
  | _ :: _, 0 => k
  | p :: r, i + 1 => kAt (k + cellN p.1) r i
theorem kAt_zero (k : Int) (ps : List (CellD × Sl3)) : kAt k ps 0 = k := by cases ps <;> rfl
theorem mkAll_length : ∀ (k : Int) (ps : List (CellD × Sl3)), (mkAll k ps).length = ps.length
  | _, [] => rfl
  | k, p :: r => by rw [mkAll, List.length_cons, mkAll_length, List.length_cons]
theorem mkAll_get : ∀ (k : Int) (ps : List (CellD × Sl3)) (i : Nat) (p : CellD × Sl3), ps[i]? = some p → (mkAll k ps)[i]? = some (mkCell (kAt k ps i) p.1, p.2)
  | _, [], _, _, h => by simp at h
  | k, q :: r, 0, p, h => by
    simp only [List.getElem?_cons_zero, Option.some.injEq] at h
    subst h; rfl
  | k, q :: r, i + 1, p, h => by
    rw [mkAll, List.getElem?_cons_succ, kAt]
    exact mkAll_get _ r i p (by simpa using h)
theorem kAt_succ : ∀ (k : Int) (ps : List (CellD × Sl3)) (i : Nat) (p : CellD × Sl3), ps[i]? = some p → kAt k ps (i + 1) = kAt k ps i + cellN p.1
  | _, [], _, _, h => by simp at h
  | k, q :: r, 0, p, h => by
    simp only [List.getElem?_cons_zero, Option.some.injEq] at h
    subst h
    show kAt (k + cellN q.1) r 0 = k + cellN q.1
    rw [kAt_zero]
  | k, q :: r, i + 1, p, h => by
    rw [kAt, kAt]
    exact kAt_succ _ r i p (by simpa using h)
theorem mkAll_snd : ∀ (k : Int) (ps : List (CellD × Sl3)), (mkAll k ps).map Prod.snd = ps.map Prod.snd
  | _, [] => rfl
  | k, p :: r => by rw [mkAll, List.map_cons, List.map_cons, mkAll_snd]
def mixA (k : Int) (ps : List (CellD × Sl3)) (i : Nat) : List (CellD × Sl3) := (mkAll k ps).take i ++ ps.drop i
theorem mixA_zero (k : Int) (ps : List (CellD × Sl3)) : mixA k ps 0 = ps := by simp [mixA]
theorem mixA_end (k : Int) (ps : List (CellD × Sl3)) : mixA k ps ps.length = mkAll k ps := by
  unfold mixA
  rw [List.drop_length, List.append_nil, List.take_of_length_le (by rw [mkAll_length]; exact Nat.le_refl _)]
theorem mixA_length (k : Int) (ps : List (CellD × Sl3)) (i : Nat) (h : i ≤ ps.length) : (mixA k ps i).length = ps.length := by
  unfold mixA
  rw [List.length_append, List.length_take, mkAll_length, List.length_drop]; omega
theorem mixA_get (k : Int) (ps : List (CellD × Sl3)) (i : Nat) (h : i < ps.length) : (mixA k ps i)[i]? = ps[i]? := by
  unfold mixA
  have hl : ((mkAll k ps).take i).length = i := by rw [List.length_take, mkAll_length]; omega
  rw [List.getElem?_append_right (by omega), hl, Nat.sub_self, List.getElem?_drop, Nat.add_zero]
theorem mixA_step (k : Int) (ps : List (CellD × Sl3)) (i : Nat) (p : CellD × Sl3) (h : ps[i]? = some p) : (mixA k ps i).set i (mkCell (kAt k ps i) p.1, p.2) = mixA k ps (i + 1) := by
  have hi := (List.getElem?_eq_some_iff.1 h).1
  have hl : ((mkAll k ps).take i).length = i := by rw [List.length_take, mkAll_length]; omega
  unfold mixA
  rw [List.set_append_right _ _ (by omega), hl, Nat.sub_self, List.drop_eq_getElem_cons hi, List.set_cons_zero, List.take_add_one, mkAll_get k ps i p h, List.append_assoc]
  rfl
theorem mixA_snd (k : Int) (ps : List (CellD × Sl3)) (i : Nat) : (mixA k ps i).map Prod.snd = ps.map Prod.snd := by
  unfold mixA
  rw [List.map_append, List.map_take, mkAll_snd, ← List.map_take, ← List.map_append, List.take_append_drop]
theorem kAt_bound : ∀ (k : Int) (ps : List (CellD × Sl3)) (i : Nat), (∀ p ∈ ps, p.1.shapes.length ≤ 24 ∧ p.1.labels.length ≤ 8 ∧ p.1.insts.length ≤ 8) → k ≤ kAt k ps i ∧ kAt k ps i ≤ k + 217 * ps.length
  | k, [], i, _ => by rw [kAt]; simp
  | k, p :: r, 0, _ => by rw [kAt]; simp; omega
  | k, p :: r, i + 1, h => by
    rw [kAt]
    have h1 := h p List.mem_cons_self
    have h2 := kAt_bound (k + cellN p.1) r i (fun q hq => h q (List.mem_cons_of_mem _ hq))
    have h3 : 1 ≤ cellN p.1 ∧ cellN p.1 ≤ 217 := by unfold cellN; omega
    simp only [List.length_cons]
    omega
theorem set_sameL {α : Type} {l : List α} {k : Nat} {v : α} (h : l[k]? = some v) : l.set k v = l := by
  apply List.ext_getElem?
  intro j
  rw [List.getElem?_set]
  by_cases e : k = j
  · subst e
    rw [if_pos rfl, h, if_pos (List.getElem?_eq_some_iff.1 h).1]
  · rw [if_neg e]
theorem flat_same {α : Type} {enc : α → List Value} {xs : List α} {k : Nat} {x y : α} (h : xs[k]? = some x) (e : enc y = enc x) : (xs.set k y).flatMap enc = xs.flatMap enc := by
  rw [List.flatMap_def, List.flatMap_def, List.map_set, e, set_sameL (by rw [List.getElem?_map, h]; rfl)]
theorem apart_at {us : List Sl3} (h : Apart3 us) {i j : Nat} {u v : Sl3} (hi : us[i]? = some u) (hj : us[j]? = some v) (hne : i ≠ j) {b : Nat} (hu : blkOf u b) : ¬ blkOf v b := by
  unfold Apart3 at h
  rw [List.pairwise_iff_getElem] at h
  obtain ⟨hi1, rfl⟩ := List.getElem?_eq_some_iff.1 hi
  obtain ⟨hj1, rfl⟩ := List.getElem?_eq_some_iff.1 hj
  rcases Nat.lt_or_gt_of_ne hne with hlt | hgt
  · exact h i j hi1 hj1 hlt b hu
  · exact fun hv => h j i hj1 hi1 hgt b hv hu
section
variable {w w' : World} {B : Nat} {v : Value} {qs : List (CellD × Sl3)} {i : Nat} {cd : CellD} {u : Sl3}
theorem CW.name {g n c : Nat} (h : CW w B (.slice (some ⟨g, 0, none⟩) n c) qs) (hi : qs[i]? = some (cd, u)) (z : ByteArray) : CW (w.setCell ⟨g, i * 4, none⟩ (.string z)) B (.slice (some ⟨g, 0, none⟩) n c) (qs.set i ({ cd with name := z }, u)) := by
  have hl := (List.getElem?_eq_some_iff.1 hi).1
  have hf := fun j x hx => flat_get cellV_len qs i (cd, u) hi j x hx
  refine ⟨?_, fun k p hp => ?_⟩
  · have h1 := own_put [.string z] (i * 4) h.own
    show World.ownsRow _ _ _ _ _ _ _
    rw [← flat_put cellV_len qs i ({ cd with name := z }, u) hl, List.length_set]
    have e : putAll (qs.flatMap cellV) (i * 4) (cellV ({ cd with name := z }, u)) = putAll (qs.flatMap cellV) (i * 4) [.string z] := by
      have e1 : ((qs.flatMap cellV).set (i * 4) (.string z))[i * 4 + 1]? = some u.s := by rw [List.getElem?_set_ne (by omega)]; exact hf 1 u.s rfl
      have e2 : ((qs.flatMap cellV).set (i * 4) (.string z))[i * 4 + 1 + 1]? = some u.l := by rw [List.getElem?_set_ne (by omega)]; exact hf 2 u.l rfl
      have e3 : ((qs.flatMap cellV).set (i * 4) (.string z))[i * 4 + 1 + 1 + 1]? = some u.i := by rw [List.getElem?_set_ne (by omega)]; exact hf 3 u.i rfl
      show ((((qs.flatMap cellV).set (i * 4) (.string z)).set (i * 4 + 1) u.s).set (i * 4 + 1 + 1) u.l).set (i * 4 + 1 + 1 + 1) u.i = (qs.flatMap cellV).set (i * 4) (.string z)
      rw [set_sameL e1, set_sameL e2, set_sameL e3]
    rw [e]
    exact h1
  · rw [List.getElem?_set] at hp
    split at hp
    · rename_i e
      subst e
      · obtain rfl := Option.some.inj hp
        have h2 := ((h.each _ _ hi).keptC h.own (grownBy_put w g (i * 4) (.string z)))
        exact ⟨h2.s, h2.l, h2.i⟩
    · exact (h.each k p hp).keptC h.own (grownBy_put w g (i * 4) (.string z))
theorem CW.rows {xs : List ShapeD} (h : CW w B v qs) (hi : qs[i]? = some (cd, u)) (ha : Apart3 (qs.map Prod.snd)) (hg : w.grownBy w' u.s.ownBlock) (hs : ShL w' B u.s xs) : CW w' B v (qs.set i ({ cd with shapes := xs }, u)) := by
  have h2 := h.each _ _ hi
  dsimp only at h2
  refine ⟨?_, fun k p hp => ?_⟩
  · show World.ownsRow _ _ _ _ _ _ _
    rw [flat_same (y := ({ cd with shapes := xs }, u)) hi rfl, List.length_set]
    exact World.ownsRow.kept h.own hg (own_types h.own h2.s (by decide))
  · rw [List.getElem?_set] at hp
    split at hp
    · rename_i e
      subst e
      rw [if_pos (List.getElem?_eq_some_iff.1 hi).1] at hp
      obtain rfl := Option.some.inj hp
      exact ⟨hs, World.ownsRow.kept h2.l hg (own_types h2.l h2.s (by decide)), World.ownsRow.kept h2.i hg (own_types h2.i h2.s (by decide))⟩
    · rename_i hne
      exact (h.each k p hp).kept hg (fun b hb e => apart_at ha (i := i) (j := k) (u := u) (v := p.2) (by rw [List.getElem?_map, hi]; rfl) (by rw [List.getElem?_map, hp]; rfl) hne (.inl e : blkOf u b) hb)
theorem CW.rowl {xs : List LabelD} (h : CW w B v qs) (hi : qs[i]? = some (cd, u)) (ha : Apart3 (qs.map Prod.snd)) (hg : w.grownBy w' u.l.ownBlock) (hs : LaL w' B u.l xs) : CW w' B v (qs.set i ({ cd with labels := xs }, u)) := by
  have h2 := h.each _ _ hi
  dsimp only at h2
  refine ⟨?_, fun k p hp => ?_⟩
  · show World.ownsRow _ _ _ _ _ _ _
    rw [flat_same (y := ({ cd with labels := xs }, u)) hi rfl, List.length_set]
    exact World.ownsRow.kept h.own hg (own_types h.own h2.l (by decide))
  · rw [List.getElem?_set] at hp
    split at hp
    · rename_i e
      subst e
      rw [if_pos (List.getElem?_eq_some_iff.1 hi).1] at hp
      obtain rfl := Option.some.inj hp
      exact ⟨World.ownsRow.kept h2.s hg (own_types h2.s h2.l (by decide)), hs, World.ownsRow.kept h2.i hg (own_types h2.i h2.l (by decide))⟩
    · rename_i hne
      exact (h.each k p hp).kept hg (fun b hb e => apart_at ha (i := i) (j := k) (u := u) (v := p.2) (by rw [List.getElem?_map, hi]; rfl) (by rw [List.getElem?_map, hp]; rfl) hne (.inr (.inl e) : blkOf u b) hb)
theorem CW.rowi {xs : List InstD} (h : CW w B v qs) (hi : qs[i]? = some (cd, u)) (ha : Apart3 (qs.map Prod.snd)) (hg : w.grownBy w' u.i.ownBlock) (hs : InL w' B u.i xs) : CW w' B v (qs.set i ({ cd with insts := xs }, u)) := by
  have h2 := h.each _ _ hi
  dsimp only at h2
  refine ⟨?_, fun k p hp => ?_⟩
  · show World.ownsRow _ _ _ _ _ _ _
    rw [flat_same (y := ({ cd with insts := xs }, u)) hi rfl, List.length_set]
    exact World.ownsRow.kept h.own hg (own_types h.own h2.i (by decide))
  · rw [List.getElem?_set] at hp
    split at hp
    · rename_i e
      subst e
      rw [if_pos (List.getElem?_eq_some_iff.1 hi).1] at hp
      obtain rfl := Option.some.inj hp
      exact ⟨World.ownsRow.kept h2.s hg (own_types h2.s h2.i (by decide)), World.ownsRow.kept h2.l hg (own_types h2.l h2.i (by decide)), hs⟩
    · rename_i hne
      exact (h.each k p hp).kept hg (fun b hb e => apart_at ha (i := i) (j := k) (u := u) (v := p.2) (by rw [List.getElem?_map, hi]; rfl) (by rw [List.getElem?_map, hp]; rfl) hne (.inr (.inr e) : blkOf u b) hb)
end

/-- Blocks of other types read on. -/
def KeepBk (w w' : World) : Prop := ∀ (g : Nat) (t : TypeId) (cs : Array Value), tyOk3 t → t ≠ 40 → Bk w g t cs → Bk w' g t cs
theorem KeepBk.refl (w : World) : KeepBk w w := fun _ _ _ _ _ h => h
theorem KeepBk.on {w W W' : World} (h : KeepBk w W) (hb : Below W.heap.size W W') : KeepBk w W' := fun g t cs h1 h2 h3 => (h g t cs h1 h2 h3).on hb
theorem KeepBk.row {w W W' : World} {B e m n : Nat} {v : Value} {xs : List Value} (h : KeepBk w W) (ho : W.ownsRow B e m v n xs) (he : e = 40 ∨ e = 77 ∨ e = 82 ∨ e = 87) (hg : W.grownBy W' v.ownBlock) : KeepBk w W' := fun g t cs h1 h2 h3 =>
  (h g t cs h1 h2 h3).grown hg (not_row ho (h g t cs h1 h2 h3) (by
    rcases he with rfl | rfl | rfl | rfl
    · exact h2
    · exact h1.1
    · exact h1.2.1
    · exact h1.2.2))

theorem CW.cellsAt {w : World} {B g n c : Nat} {qs : List (CellD × Sl3)} {i : Nat} {cd : CellD} {u : Sl3} (h : CW w B (.slice (some ⟨g, 0, none⟩) n c) qs) (hi : qs[i]? = some (cd, u)) : w.cell? ⟨g, i * 4, none⟩ = some (.string cd.name) ∧ w.cell? ⟨g, i * 4 + 1, none⟩ = some u.s ∧ w.cell? ⟨g, i * 4 + 2, none⟩ = some u.l ∧ w.cell? ⟨g, i * 4 + 3, none⟩ = some u.i ∧ g < w.heap.size := by
  obtain ⟨g2, p2, e, hp2, hBg, hgl, hcc⟩ := FL.elem cellV_len h.own (List.getElem?_eq_some_iff.1 hi).1
  simp only [Option.some.injEq, Addr.mk.injEq, and_true] at e
  subst e
  rw [hi] at hp2
  obtain rfl := (Option.some.inj hp2).symm
  exact ⟨hcc 0 _ rfl, hcc 1 _ rfl, hcc 2 _ rfl, hcc 3 _ rfl, hgl⟩
theorem apart_set {qs : List (CellD × Sl3)} {j : Nat} {cd : CellD} {u : Sl3} (h : Apart3 (qs.map Prod.snd)) (hi : qs[j]? = some (cd, u)) (c : CellD) : Apart3 ((qs.set j (c, u)).map Prod.snd) := by
  rw [List.map_set, set_sameL (by rw [List.getElem?_map, hi]; rfl)]
  exact h

set_option maxHeartbeats 3200000 in
set_option maxRecDepth 100000 in
theorem markCellS_any (v : Value) (ps : List (CellD × Sl3)) (w : World) (B : Nat) (hv : CW w B v ps) (hB : B ≤ w.heap.size) (ha : Apart3 (ps.map Prod.snd)) (hL : LibOk (ps.map Prod.fst)) :
    Calls Tryz.prog 16 #[v, .int .i64 1] w fun e w' => e = .returned (.int .i64 (kAt 1 ps ps.length)) ∧ CW w' B v (mkAll 1 ps) ∧ Below B w w' ∧ KeepBk w w' := by
  obtain ⟨A, c1, rfl, hc1, hm1⟩ := hv.form
  have hlen : ps.length ≤ 8 := by have := hL.1; simpa using this
  have heach : ∀ p ∈ ps, p.1.shapes.length ≤ 24 ∧ p.1.labels.length ≤ 8 ∧ p.1.insts.length ≤ 8 := fun p hp => hL.2 p.1 (List.mem_map_of_mem hp)
  have Hea := Lib.hid heach
  have HA := Lib.hid ha
  have HV := Lib.hid hv
  clear hv ha hL heach
  go_enter Tryz.func16, Tryz.ntmps16
  go_wp2
  go_loopw [1, 5] (fun kv i wr => ∃ (j : Nat) (k : Int), j ≤ ps.length ∧ i = .int .i64 j ∧ kv = .int .i64 k ∧ Hid (kAt 1 ps j = k) ∧ CW wr B (.slice A ps.length c1) (mixA 1 ps j) ∧ Below B w wr ∧ KeepBk w wr) (fun _ i _ => ps.length - (intOf i).toNat)
  case atStart => exact ⟨0, 1, Nat.zero_le _, rfl, rfl, Lib.hid (kAt_zero 1 ps), by rw [mixA_zero]; exact HV.out, Below.refl _ _, KeepBk.refl _⟩
  case round =>
    obtain ⟨j, k, hj, rfl, rfl, Hk, hR, hb, hKB⟩ := hrel
    have hBr : B ≤ wr.heap.size := Nat.le_trans hB hb.size
    have hkb := kAt_bound 1 ps j Hea.out
    rw [Hk.out] at hkb
    by_cases hlt : j < ps.length
    · obtain ⟨⟨cd, u⟩, hp⟩ : ∃ p, ps[j]? = some p := ⟨_, List.getElem?_eq_getElem hlt⟩
      have hq : (mixA 1 ps j)[j]? = some (cd, u) := by rw [mixA_get 1 ps j hlt]; exact hp
      have hsz := Hea.out _ (List.mem_of_getElem? hp)
      dsimp only at hsz
      have Hst := Lib.hid (mixA_step 1 ps j (cd, u) hp)
      have Hks := Lib.hid (kAt_succ 1 ps j (cd, u) hp)
      have hjl : j < (mixA 1 ps j).length := (List.getElem?_eq_some_iff.1 hq).1
      obtain ⟨g, p2, rfl, hp2, hBg, hgl, hcc⟩ := FL.elem cellV_len hR.own hjl
      rw [hq] at hp2
      obtain rfl := (Option.some.inj hp2).symm
      have f0 : wr.cell? ⟨g, j * 4, none⟩ = some (.string cd.name) := hcc 0 _ rfl
      have f1 : wr.cell? ⟨g, j * 4 + 1, none⟩ = some u.s := hcc 1 _ rfl
      have f2 : wr.cell? ⟨g, j * 4 + 2, none⟩ = some u.l := hcc 2 _ rfl
      have f3 : wr.cell? ⟨g, j * 4 + 3, none⟩ = some u.i := hcc 3 _ rfl
      have z0 := hR.own.frozen (j * 4)
      have Hap : Hid (Apart3 ((mixA 1 ps j).map Prod.snd)) := Lib.hid (by rw [mixA_snd]; exact HA.out)
      have HR := Lib.hid hR
      have Hq := Lib.hid hq
      have Hb := Lib.hid hb
      have HKB := Lib.hid hKB
      clear hcc hp2 hq hp hR hb hKB
      go_wp2_with fail
      refine (markText_any k _ (by omega) (by omega)).mono ?_
      rintro e w2 ⟨rfl, hb2⟩
      have C1 := Lib.hid ((HR.out.on hb2).name Hq.out (mtx k))
      have K1 := Lib.hid ((HKB.out.on hb2).row (HR.out.on hb2).own (.inl rfl) (grownBy_put w2 g (j * 4) (.string (mtx k))))
      have B1 := Lib.hid ((Hb.out.trans (hb2.mono hBr)).setCell (p := ⟨g, j * 4, none⟩) hBg (.string (mtx k)))
      have hs1 : (w2.setCell ⟨g, j * 4, none⟩ (.string (mtx k))).heap.size = w2.heap.size := by simp [World.setCell]
      have y0 : w2.cell? ⟨g, j * 4, none⟩ = some (.string cd.name) := (hb2.cell (p := ⟨g, j * 4, none⟩) hgl).trans f0
      have y1 : w2.cell? ⟨g, j * 4 + 1, none⟩ = some u.s := (hb2.cell (p := ⟨g, j * 4 + 1, none⟩) hgl).trans f1
      have yz : w2.frozen? ⟨g, j * 4, none⟩ = false := (hb2.frozen (p := ⟨g, j * 4, none⟩) hgl).trans z0
      have hg2 : g < w2.heap.size := Nat.lt_of_lt_of_le hgl hb2.size
      have hB2 : B ≤ w2.heap.size := Nat.le_trans hBr hb2.size
      clear hb2 f0 f1 f2 f3 z0
      go_wp2_with fail
      have hBW : B ≤ (w2.setCell ⟨g, j * 4, none⟩ (.string (mtx k))).heap.size := by rw [hs1]; exact hB2
      have q1 : ((mixA 1 ps j).set j ({ cd with name := mtx k }, u))[j]? = some ({ cd with name := mtx k }, u) := by rw [List.getElem?_set_self hjl]
      refine (markShapeS_any u.s cd.shapes _ B (C1.out.each j _ q1).s (k + 1) (by omega) (by omega) (by omega)).mono ?_
      rintro e w4 ⟨rfl, hS1, hg1⟩
      have C2 : Hid (CW w4 B (.slice (some ⟨g, 0, none⟩) ps.length c1) ((mixA 1 ps j).set j ((⟨mtx k, mkG shM 5 (k + 1) cd.shapes.length, cd.labels, cd.insts⟩ : CellD), u))) := Lib.hid (by
        have h := C1.out.rows q1 (apart_set Hap.out Hq.out _) hg1 hS1
        rwa [List.set_set] at h)
      have K2 := Lib.hid (K1.out.row (C1.out.each j _ q1).s (.inr (.inl rfl)) hg1)
      have B2 := Lib.hid (B1.out.grown hg1 hBW (fun b hb => (World.ownsRow.lt (C1.out.each j _ q1).s b hb).1))
      have hBw4 : B ≤ w4.heap.size := Nat.le_trans hBW hg1.size
      clear hS1 hg1 q1
      obtain ⟨-, -, x2, -, x5⟩ := C2.out.cellsAt (by rw [List.getElem?_set_self hjl])
      go_wp2_with fail
      have q2 : ((mixA 1 ps j).set j ((⟨mtx k, mkG shM 5 (k + 1) cd.shapes.length, cd.labels, cd.insts⟩ : CellD), u))[j]? = some ((⟨mtx k, mkG shM 5 (k + 1) cd.shapes.length, cd.labels, cd.insts⟩ : CellD), u) := by rw [List.getElem?_set_self hjl]
      refine (markLabelS_any u.l cd.labels _ B (C2.out.each j _ q2).l (k + 1 + 5 * cd.shapes.length) (by omega) (by omega) (by omega)).mono ?_
      rintro e w5 ⟨rfl, hS2, hg2⟩
      have C3 : Hid (CW w5 B (.slice (some ⟨g, 0, none⟩) ps.length c1) ((mixA 1 ps j).set j ((⟨mtx k, mkG shM 5 (k + 1) cd.shapes.length, mkG laM 4 (k + 1 + 5 * cd.shapes.length) cd.labels.length, cd.insts⟩ : CellD), u))) := Lib.hid (by
        have h := C2.out.rowl q2 (apart_set Hap.out Hq.out _) hg2 hS2
        rwa [List.set_set] at h)
      have K3 := Lib.hid (K2.out.row (C2.out.each j _ q2).l (.inr (.inr (.inl rfl))) hg2)
      have B3 := Lib.hid (B2.out.grown hg2 hBw4 (fun b hb => (World.ownsRow.lt (C2.out.each j _ q2).l b hb).1))
      have hBw5 : B ≤ w5.heap.size := Nat.le_trans hBw4 hg2.size
      clear hS2 hg2 q2
      obtain ⟨-, -, -, x3, x6⟩ := C3.out.cellsAt (by rw [List.getElem?_set_self hjl])
      go_wp2_with fail
      have q3 : ((mixA 1 ps j).set j ((⟨mtx k, mkG shM 5 (k + 1) cd.shapes.length, mkG laM 4 (k + 1 + 5 * cd.shapes.length) cd.labels.length, cd.insts⟩ : CellD), u))[j]? = some ((⟨mtx k, mkG shM 5 (k + 1) cd.shapes.length, mkG laM 4 (k + 1 + 5 * cd.shapes.length) cd.labels.length, cd.insts⟩ : CellD), u) := by rw [List.getElem?_set_self hjl]
      refine (markInstanceS_any u.i cd.insts _ B (C3.out.each j _ q3).i (k + 1 + 5 * cd.shapes.length + 4 * cd.labels.length) (by omega) (by omega) (by omega)).mono ?_
      rintro e w6 ⟨rfl, hS3, hg3⟩
      have C4 : Hid (CW w6 B (.slice (some ⟨g, 0, none⟩) ps.length c1) ((mixA 1 ps j).set j (mkCell k cd, u))) := Lib.hid (by
        have h := C3.out.rowi q3 (apart_set Hap.out Hq.out _) hg3 hS3
        rwa [List.set_set] at h)
      have K4 := Lib.hid (K3.out.row (C3.out.each j _ q3).i (.inr (.inr (.inr rfl))) hg3)
      have B4 := Lib.hid (B3.out.grown hg3 hBw5 (fun b hb => (World.ownsRow.lt (C3.out.each j _ q3).i b hb).1))
      have hBw6 : B ≤ w6.heap.size := Nat.le_trans hBw5 hg3.size
      clear hS3 hg3 q3
      go_wp2
      refine ⟨⟨j + 1, k + 1 + 5 * cd.shapes.length + 4 * cd.labels.length + 8 * cd.insts.length, hlt, by go_num, rfl, Lib.hid ?_, ?_, B4.out, K4.out⟩, by simp [intOf]; omega⟩
      · rw [Hks.out, Hk.out]; unfold cellN; omega
      · rw [← Hst.out, Hk.out]; exact C4.out
    · go_wp2
      go_ret
      obtain rfl : j = ps.length := by omega
      rw [mixA_end] at hR
      exact ⟨by rw [Hk.out]; rfl, hR, hb, hKB⟩

set_option maxHeartbeats 1600000 in
set_option maxRecDepth 100000 in
theorem heldLabelS_any (v : Value) (n : Nat) (w : World) (k0 : Int) (hv : LaL w 0 v (mkG laM 4 k0 n)) (h0 : 1 ≤ k0) (h1 : k0 ≤ 100000) (hn : n ≤ 1000) :
    Calls Tryz.prog 38 #[v, .int .i64 k0] w fun e w' => e = .returned (.int .i64 (k0 + 4 * n)) ∧ Below w.heap.size w w' := by
  obtain ⟨A, c1, rfl, hc1, hm1⟩ := hv.form
  have hl := mkG_length laM 4 k0 n
  rw [hl] at hc1
  have Hv := Lib.hid hv
  have Hl := Lib.hid hl
  rw [hl]
  clear hl hv
  go_enter Tryz.func38, Tryz.ntmps38
  go_wp2
  go_loopw [1, 5] (fun kv i wr => ∃ j : Nat, j ≤ n ∧ i = .int .i64 j ∧ kv = .int .i64 (k0 + 4 * j) ∧ Below w.heap.size w wr) (fun _ i _ => n - (intOf i).toNat)
  case atStart => exact ⟨0, Nat.zero_le _, rfl, by simp, Below.refl _ _⟩
  case round =>
    obtain ⟨j, hj, rfl, rfl, hb⟩ := hrel
    by_cases hlt : j < n
    · obtain ⟨g, x, rfl, hx, -, hgl, hcc⟩ := FL.elem LabelD.len (Hv.out.on hb) (k := j) (by rw [Hl.out]; exact hlt)
      rw [mkG_get _ _ _ n j hlt] at hx
      obtain rfl := (Option.some.inj hx).symm
      have f0 : wr.cell? ⟨g, j * 4, none⟩ = some (.int .i64 (k0 + 4 * j)) := hcc 0 _ rfl
      have e1 : k0 + 4 * (j : Int) + 1 = k0 + 4 * j + 1 := rfl
      have f1 : wr.cell? ⟨g, j * 4 + 1, none⟩ = some (.int .i64 (k0 + 4 * j + 1)) := hcc 1 _ rfl
      have e2 : k0 + 4 * (j : Int) + 2 = k0 + 4 * j + 1 + 1 := by omega
      have f2 : wr.cell? ⟨g, j * 4 + 2, none⟩ = some (.int .i64 (k0 + 4 * j + 1 + 1)) := by rw [← e2]; exact hcc 2 _ rfl
      have e3 : k0 + 4 * (j : Int) + 3 = k0 + 4 * j + 1 + 1 + 1 := by omega
      have f3 : wr.cell? ⟨g, j * 4 + 3, none⟩ = some (.string (mtx (k0 + 4 * j + 1 + 1 + 1))) := by rw [← e3]; exact hcc 3 _ rfl
      obtain ⟨z, hz⟩ : ∃ z, mtx (k0 + 4 * j + 1 + 1 + 1) = z := ⟨_, rfl⟩
      rw [hz] at f3
      have Hz := Lib.hid hz
      have f4 : wr.drew.cell? ⟨g, j * 4 + 3, none⟩ = some (.string z) := f3
      have hbd := Lib.hid hb.drew
      have hsz : w.heap.size ≤ wr.drew.heap.size := hb.size
      clear hcc hx hz e1 e2 e3
      go_wp2
      go_region_held3 (fun w' => w'.cell? ⟨g, j * 4 + 3, none⟩ = some (.string z)) (first | (with_reducible exact f3) | (with_reducible exact f4) | (with_reducible exact f5)) ((go_at_call 33; refine (markText_any (k0 + 4 * j + 1 + 1 + 1) _ (by omega) (by omega)).mono ?_; rintro e w5 ⟨rfl, hb5⟩; rw [Hz.out]; (have f5 : w5.cell? ⟨g, j * 4 + 3, none⟩ = some (.string z) := (hb5.cell (p := ⟨g, j * 4 + 3, none⟩) hgl).trans f4)))
      all_goals
        go_wp2
        exact ⟨⟨j + 1, by omega, by go_num, by go_num, hbd.out.trans (hb5.mono hsz)⟩, by simp [intOf]; omega⟩
    · go_wp2
      go_ret
      obtain rfl : j = n := by omega
      exact ⟨rfl, hb⟩

set_option maxHeartbeats 3200000 in
set_option maxRecDepth 100000 in
theorem heldCellS_any (v : Value) (ps : List (CellD × Sl3)) (w : World) (hv : CW w 0 v (mkAll 1 ps)) (hL : LibOk (ps.map Prod.fst)) :
    Calls Tryz.prog 17 #[v, .int .i64 1] w fun e w' => e = .returned (.int .i64 (kAt 1 ps ps.length)) ∧ Below w.heap.size w w' := by
  obtain ⟨A, c1, rfl, hc1, hm1⟩ := hv.form
  have hml := mkAll_length 1 ps
  rw [hml] at hc1
  have hlen : ps.length ≤ 8 := by have := hL.1; simpa using this
  have heach : ∀ p ∈ ps, p.1.shapes.length ≤ 24 ∧ p.1.labels.length ≤ 8 ∧ p.1.insts.length ≤ 8 := fun p hp => hL.2 p.1 (List.mem_map_of_mem hp)
  have Hea := Lib.hid heach
  have HV := Lib.hid hv
  rw [hml]
  have Hml := Lib.hid hml
  clear hv hL heach hml
  go_enter Tryz.func17, Tryz.ntmps17
  go_wp2
  go_loopw [1, 5] (fun kv i wr => ∃ (j : Nat) (k : Int), j ≤ ps.length ∧ i = .int .i64 j ∧ kv = .int .i64 k ∧ Hid (kAt 1 ps j = k) ∧ Below w.heap.size w wr) (fun _ i _ => ps.length - (intOf i).toNat)
  case atStart => exact ⟨0, 1, Nat.zero_le _, rfl, rfl, Lib.hid (kAt_zero 1 ps), Below.refl _ _⟩
  case round =>
    obtain ⟨j, k, hj, rfl, rfl, Hk, hb⟩ := hrel
    have hkb := kAt_bound 1 ps j Hea.out
    rw [Hk.out] at hkb
    by_cases hlt : j < ps.length
    · obtain ⟨⟨cd, u⟩, hp⟩ : ∃ p, ps[j]? = some p := ⟨_, List.getElem?_eq_getElem hlt⟩
      have hsz := Hea.out _ (List.mem_of_getElem? hp)
      dsimp only at hsz
      have hq : (mkAll 1 ps)[j]? = some (mkCell k cd, u) := by rw [mkAll_get 1 ps j _ hp, Hk.out]
      have Hks := Lib.hid (kAt_succ 1 ps j (cd, u) hp)
      have HVr := HV.out.on hb
      obtain ⟨g2, p2, e2, -, -, -, -⟩ := FL.elem cellV_len HVr.own (List.getElem?_eq_some_iff.1 hq).1
      subst e2
      obtain ⟨f0, f1, f2, f3, hgl⟩ := HVr.cellsAt hq
      have hC := HVr.each j _ hq
      obtain ⟨z, hz⟩ : ∃ z, mtx k = z := ⟨_, rfl⟩
      have f0' : wr.cell? ⟨g2, j * 4, none⟩ = some (.string z) := by rw [← hz]; exact f0
      have Hz := Lib.hid hz
      have f4 : wr.drew.cell? ⟨g2, j * 4, none⟩ = some (.string z) := f0'
      have HC := Lib.hid hC
      have hbd := Lib.hid hb.drew
      have hszw : w.heap.size ≤ wr.drew.heap.size := hb.size
      have f1d : wr.drew.cell? ⟨g2, j * 4 + 1, none⟩ = some u.s := f1
      have f2d : wr.drew.cell? ⟨g2, j * 4 + 2, none⟩ = some u.l := f2
      have f3d : wr.drew.cell? ⟨g2, j * 4 + 3, none⟩ = some u.i := f3
      clear hq hp HVr hC hz f0
      go_wp2
      go_region_held3 (fun w' => w'.cell? ⟨g2, j * 4, none⟩ = some (.string z)) (first | (with_reducible exact f0') | (with_reducible exact f4) | (with_reducible exact f5)) ((go_at_call 33; refine (markText_any k _ (by omega) (by omega)).mono ?_; rintro e w5 ⟨rfl, hb5⟩; rw [Hz.out]; (have f5 : w5.cell? ⟨g2, j * 4, none⟩ = some (.string z) := (hb5.cell (p := ⟨g2, j * 4, none⟩) hgl).trans f4)))
      all_goals
        have y1 : w5.cell? ⟨g2, j * 4 + 1, none⟩ = some u.s := (hb5.cell (p := ⟨g2, j * 4 + 1, none⟩) hgl).trans f1d
        have y2 : w5.cell? ⟨g2, j * 4 + 2, none⟩ = some u.l := (hb5.cell (p := ⟨g2, j * 4 + 2, none⟩) hgl).trans f2d
        have y3 : w5.cell? ⟨g2, j * 4 + 3, none⟩ = some u.i := (hb5.cell (p := ⟨g2, j * 4 + 3, none⟩) hgl).trans f3d
        have hgl5 : g2 < w5.heap.size := Nat.lt_of_lt_of_le hgl hb5.size
        have HC5 := Lib.hid ((HC.out.on (Below.refl _ _).drew).on hb5)
        have Hb5 := Lib.hid (hbd.out.trans (hb5.mono hszw))
        have hs5 := Hb5.out.size
        have n1 : ¬ k + 1 + 5 * (cd.shapes.length : Int) < 0 := by omega
        have n2 : ¬ k + 1 + 5 * (cd.shapes.length : Int) + 4 * (cd.labels.length : Int) < 0 := by omega
        have n3 : ¬ k + 1 + 5 * (cd.shapes.length : Int) + 4 * (cd.labels.length : Int) + 8 * (cd.insts.length : Int) < 0 := by omega
        clear hb5 f4 f5 f1 f2 f3 f1d f2d f3d f0'
        go_wp2_with fail
        refine (heldShapeS_any u.s cd.shapes.length _ (k + 1) HC5.out.s (by omega) (by omega) (by omega)).mono ?_
        rintro e w6 ⟨rfl, hb6⟩
        have y2' : w6.cell? ⟨g2, j * 4 + 2, none⟩ = some u.l := (hb6.cell (p := ⟨g2, j * 4 + 2, none⟩) hgl5).trans y2
        have y3' : w6.cell? ⟨g2, j * 4 + 3, none⟩ = some u.i := (hb6.cell (p := ⟨g2, j * 4 + 3, none⟩) hgl5).trans y3
        have hgl6 : g2 < w6.heap.size := Nat.lt_of_lt_of_le hgl5 hb6.size
        have HC6 := Lib.hid (HC5.out.on hb6)
        have Hb6 := Lib.hid (Hb5.out.trans (hb6.mono hs5))
        have hs6 := Hb6.out.size
        clear hb6 y1 y2 y3
        go_wp2_with fail
        refine (heldLabelS_any u.l cd.labels.length _ (k + 1 + 5 * cd.shapes.length) HC6.out.l (by omega) (by omega) (by omega)).mono ?_
        rintro e w7 ⟨rfl, hb7⟩
        have y3'' : w7.cell? ⟨g2, j * 4 + 3, none⟩ = some u.i := (hb7.cell (p := ⟨g2, j * 4 + 3, none⟩) hgl6).trans y3'
        have HC7 := Lib.hid (HC6.out.on hb7)
        have Hb7 := Lib.hid (Hb6.out.trans (hb7.mono hs6))
        have hs7 := Hb7.out.size
        clear hb7 y2' y3'
        go_wp2_with fail
        refine (heldInstanceS_any u.i cd.insts.length _ (k + 1 + 5 * cd.shapes.length + 4 * cd.labels.length) HC7.out.i (by omega) (by omega) (by omega)).mono ?_
        rintro e w8 ⟨rfl, hb8⟩
        have Hb8 := Lib.hid (Hb7.out.trans (hb8.mono hs7))
        clear hb8
        go_wp2
        refine ⟨⟨j + 1, k + 1 + 5 * cd.shapes.length + 4 * cd.labels.length + 8 * cd.insts.length, hlt, by go_num, rfl, Lib.hid ?_, Hb8.out⟩, by simp [intOf]; omega⟩
        rw [Hks.out, Hk.out]; unfold cellN; omega
    · go_wp2
      go_ret
      obtain rfl : j = ps.length := by omega
      exact ⟨by rw [Hk.out]; rfl, hb⟩

set_option maxRecDepth 100000 in
theorem markLib_any (v : Value) (ps : List (CellD × Sl3)) (w : World) (B : Nat) (hv : CW w B v ps) (hB : B ≤ w.heap.size) (ha : Apart3 (ps.map Prod.snd)) (hL : LibOk (ps.map Prod.fst)) :
    Calls Tryz.prog 8 #[.agg #[v], .int .i64 1] w fun e w' => e = .returned (.int .i64 (kAt 1 ps ps.length)) ∧ CW w' B v (mkAll 1 ps) ∧ Below B w w' ∧ KeepBk w w' := by
  have b0 := Lib.hid ((Below.refl w.heap.size w).alloc (Nat.le_refl _) (.cells #[v] 24))
  have HV := Lib.hid (hv.on b0.out)
  have hB2 := Nat.le_trans hB b0.out.size
  go_enter Tryz.func8, Tryz.ntmps8
  go_wp2_with fail
  refine (markCellS_any v ps _ B HV.out hB2 ha hL).mono ?_
  rintro e w1 ⟨rfl, h1, h2, h3⟩
  have H1 := Lib.hid h1
  have H2 := Lib.hid h2
  have H3 := Lib.hid h3
  clear h1 h2 h3 hv ha hL
  go_wp2
  go_ret
  exact ⟨rfl, H1.out, (b0.out.mono hB).trans H2.out, fun g t cs h1 h2 h3 => H3.out g t cs h1 h2 (h3.on b0.out)⟩
set_option maxRecDepth 100000 in
theorem heldLib_any (v : Value) (ps : List (CellD × Sl3)) (w : World) (hv : CW w 0 v (mkAll 1 ps)) (hL : LibOk (ps.map Prod.fst)) :
    Calls Tryz.prog 9 #[.agg #[v], .int .i64 1] w fun e w' => e = .returned (.int .i64 (kAt 1 ps ps.length)) ∧ Below w.heap.size w w' := by
  have b0 := Lib.hid ((Below.refl w.heap.size w).alloc (Nat.le_refl _) (.cells #[v] 24))
  have HV := Lib.hid (hv.on b0.out)
  have hk := (kAt_bound 1 ps ps.length (fun p hp => hL.2 p.1 (List.mem_map_of_mem hp))).1
  go_enter Tryz.func9, Tryz.ntmps9
  go_wp2_with fail
  refine (heldCellS_any v ps _ HV.out hL).mono ?_
  rintro e w1 ⟨rfl, h2⟩
  have H2 := Lib.hid h2
  obtain ⟨k, hkk⟩ : ∃ k, kAt 1 ps ps.length = k := ⟨_, rfl⟩
  rw [hkk] at hk ⊢
  have hkn : ¬ k < 0 := by omega
  have Hkk := Lib.hid hkk
  clear h2 hv hL hkk
  go_wp2
  go_ret
  exact ⟨by rw [Hkk.out]; rfl, b0.out.trans (H2.out.mono b0.out.size)⟩

end Go.Proofs.YtljfpeipcfankaaGreatDoor
