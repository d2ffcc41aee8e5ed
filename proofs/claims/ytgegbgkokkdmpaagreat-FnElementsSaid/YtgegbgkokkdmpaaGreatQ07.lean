/- Contracts: the program's decimal and join. Conditions: the table of powers of ten is laid; few words. Contracts: lengths of runs, the least, the first that is short; of the reference and of the program. Condition: the rectangles are valid. Contracts: l17Fill, l17Mark, shorter. Condition: the rectangles are valid. Contracts: HorizontalRuns and VerticalRuns of the reference and of the program. No conditions. Contracts: MinWidth of the reference and of the program. No conditions. Contracts: MarkWidth and IsWideEnough of the reference and of the program. No conditions. Contracts: l17First, firstShorter, WidthWitness of the reference and of the program. No conditions. Contracts: firstShorter, WidthWitness of the reference and of the program. No conditions. Contracts: common, coveredCells, l19Covered. Conditions: valid rectangles. Contracts: coveredCells; CoveredCells of the reference and of the program. No conditions. Contracts: CoveredCells of the reference and of the program. No conditions. -/
import Derived.Test.YtgegbgkokkdmpaaGreatQ03
import Derived.Test.YtgegbgkokkdmpaaGreatQ06
import Derived.Lib.Join
import Derived.Lib.SmallJoins
import Derived.Test.YtgegbgkokkdmpaaGreatQ01
import Derived.Test.YtgegbgkokkdmpaaGreatQ04
import Derived.Test.YtgegbgkokkdmpaaGreatQ05
import Derived.Deep.RegionHeld3

namespace Go.Proofs.YtgegbgkokkdmpaaGreat
open Go.RowKit

theorem below_grow2 {B : Nat} {a w : World} (h : Below B a w) (hB : B ≤ w.heap.size) (os : Array Obj) : Below B a (Sort.grow w os) :=
  ⟨h.os, h.tape, h.output, by simp [Sort.grow]; have := h.size; omega, fun k hk => by
    have e : (Sort.grow w os).heap[k]? = w.heap[k]? := by simp only [Sort.grow]; rw [Array.getElem?_append_left (by omega)]
    exact e.trans (h.block k hk)⟩
/-- The table of the powers of ten is laid. -/
def Tab (w : World) : Prop := Lib.TabIs Tryz.prog w "internal/strconv.uint64pow10" .u64 Lib.pow10Tab
/-- .. and lies below block B. -/
def TabB (B : Nat) (w : World) : Prop := ∀ w', Below B w w' → Tab w'
theorem TabB.here {B : Nat} {w : World} (h : TabB B w) : Tab w := h w (Below.refl _ _)
theorem TabB.on {B : Nat} {w w' : World} (h : TabB B w) (hb : Below B w w') : TabB B w' := fun u hu => h u (hb.trans hu)
theorem TabB.more {B B' : Nat} {w : World} (h : TabB B w) (hB : B ≤ B') : TabB B' w := fun u hu => h u (hu.mono hB)
theorem infoStr : (Tryz.prog.info? 9).map (fun i => (i.zero, i.size, i.bytes)) = some (some (.string ⟨#[]⟩), 1, 16) := by kernel_rfl
/-- A row of strings. -/
def SL (w : World) (B : Nat) (v : Value) (ss : List ByteArray) : Prop := w.ownsRow B 9 1 v ss.length (ss.map Value.string)
section
variable {w w' : World} {B B' : Nat} {v : Value} {ss : List ByteArray}
theorem SL.on (h : SL w B v ss) (hb : Below w.heap.size w w') : SL w' B v ss := own_on h hb
theorem SL.less (h : SL w B v ss) (hB : B' ≤ B) : SL w B' v ss := own_less h hB
theorem SL.alloc (h : SL w B v ss) (o : Obj) : SL (w.alloc o) B v ss := World.ownsRow.alloc h o
theorem SL.drew (h : SL w B v ss) : SL w.drew B v ss := own_drewN h 1
theorem SL.nil (w : World) (B : Nat) : SL w B (.slice none 0 0) [] := World.ownsRow_nil w B _ _
theorem SL.form (h : SL w B v ss) : ∃ A cap, v = .slice A ss.length cap ∧ ss.length ≤ cap ∧ cap ≤ maxLen := by
  obtain ⟨A, cap, hv, h1, h2, _⟩ := own_form h
  exact ⟨A, cap, hv, h1, h2⟩
/-- The element k, in memory. -/
theorem SL.elem {A : Option Addr} {n c : Nat} (h : SL w B (.slice A n c) ss) {k : Nat} (hk : k < ss.length) : ∃ g x, A = some ⟨g, 0, none⟩ ∧ ss[k]? = some x ∧ B ≤ g ∧ g < w.heap.size ∧ w.cell? ⟨g, k, none⟩ = some (.string x) := by
  obtain ⟨A', cap, hv, h1, h2, h3⟩ := own_form h
  simp only [Value.slice.injEq] at hv
  obtain ⟨g, hA, hB, hg, hc, _⟩ := h3 (by omega)
  have hx : ss[k]? = some ss[k] := List.getElem?_eq_getElem hk
  exact ⟨g, ss[k], hv.1.trans hA, hx, hB, hg, hc k _ (by rw [List.getElem?_map, hx]; rfl)⟩
theorem SL.cells {g n c : Nat} (h : SL w B (.slice (some ⟨g, 0, none⟩) n c) ss) : ∀ (j : Nat) (x : ByteArray), ss[j]? = some x → w.cell? ⟨g, 0 + j, none⟩ = some (.string x) := by
  intro j x hx
  obtain ⟨g', x', e, hx', -, -, hc⟩ := h.elem (List.getElem?_eq_some_iff.1 hx).1
  cases e
  rw [hx] at hx'
  cases hx'
  rw [Nat.zero_add]
  exact hc
end
/-- 'words = append(words, s)'. -/
theorem wpList_append_S {w : World} {ops : Array Oper} {rest : List Oper} {o : Oper} {a : Act} {Q : Exit → Act → World → Prop} (hgd : o.guard = none) (s x : Operand)
    (ho : o.op = .call { callee := .builtin .append, args := #[s, x], argTypes := #[117, 117] })
    (B : Nat) (v : Value) (ss : List ByteArray) (hs : a.eval s = v) (hown : SL w B v ss) (u : ByteArray) (hx : a.eval x = .slice (some ⟨w.heap.size, 0, none⟩) 1 1) (hlen : ss.length ≤ 1000000) (hB : B ≤ w.heap.size)
    (h : ∀ v' w', SL w' B v' (ss ++ [u]) → w.grownBy w' v.ownBlock → Below B w w' → wpList Tryz.prog ops Q rest (a.put o.dst v') w') :
    wpList Tryz.prog ops Q (o :: rest) a (w.alloc (.cells #[.string u] 9)) := by
  refine wpList_append_G hgd s x 9 117 1 16 _ infoStr Tryz.underlying117 rfl (by decide) (by decide) ho B v ss.length _ hs hown [.string u] rfl (by simp [Value.oneCell']) hx hlen hB ?_
  intro v' w' k1 k2 k3
  exact h v' w' (by unfold SL; rw [List.length_append, List.map_append]; exact k1) k2 k3
theorem join_len (xs : List (List UInt8)) (sep : List UInt8) (m : Nat) (h : ∀ x ∈ xs, x.length ≤ m) : (Lib.join xs sep).length ≤ xs.length * (m + sep.length) := by
  cases xs with
  | nil => simp [Lib.join_nil]
  | cons x r =>
    rw [Lib.join_cons, List.length_append]
    have hx := h x List.mem_cons_self
    have : ∀ r : List (List UInt8), (∀ y ∈ r, y.length ≤ m) → (Lib.joinTail sep r).length ≤ r.length * (m + sep.length) := by
      intro r
      induction r with
      | nil => intro _; simp [Lib.joinTail]
      | cons y r ih =>
        intro hr
        have h1 := hr y List.mem_cons_self
        have h2 := ih fun z hz => hr z (List.mem_cons_of_mem _ hz)
        have e : Lib.joinTail sep (y :: r) = sep ++ y ++ Lib.joinTail sep r := by simp [Lib.joinTail]
        rw [e, List.length_append, List.length_append, List.length_cons, Nat.succ_mul]
        omega
    have h2 := this r fun y hy => h y (List.mem_cons_of_mem _ hy)
    rw [List.length_cons, Nat.succ_mul]
    omega

/-- Words, then numbers, with blanks between them. -/
def joinV (ss : List ByteArray) (ns : List Int) : List UInt8 := Lib.join (ss.map (·.data.toList) ++ ns.map Lib.itoa) [32]
def numsTo (ns : List Int) (k : Nat) : List ByteArray := (ns.take k).map fun n => ⟨(Lib.itoa n).toArray⟩
theorem numsTo_succ {ns : List Int} {k : Nat} {n : Int} (h : ns[k]? = some n) : numsTo ns (k + 1) = numsTo ns k ++ [⟨(Lib.itoa n).toArray⟩] := by
  unfold numsTo
  rw [List.take_add_one, h]
  simp
theorem joinV_eq (ss : List ByteArray) (ns : List Int) : Lib.join ((ss ++ numsTo ns ns.length).map (·.data.toList)) [32] = joinV ss ns := by
  unfold joinV numsTo
  rw [List.take_length, List.map_append, List.map_map]
  rfl

theorem joinV_len {ss : List ByteArray} {ns : List Int} (hN : ∀ n ∈ ns, -9223372036854775808 ≤ n ∧ n ≤ 9223372036854775807) (hs : ∀ s ∈ ss, s.size ≤ 21) : (joinV ss ns).length ≤ (ss.length + ns.length) * 22 := by
  unfold joinV
  refine Nat.le_trans (join_len _ _ 21 ?_) (by simp)
  intro y hy
  rcases List.mem_append.1 hy with h | h
  · obtain ⟨s, h', rfl⟩ := List.mem_map.1 h
    exact hs s h'
  · obtain ⟨n, h', rfl⟩ := List.mem_map.1 h
    exact itoa_len (hN n h')

/-! ## Strings as byte lists -/
theorem bytes_eq {s : ByteArray} {l : List UInt8} (h : s = ⟨l.toArray⟩) : s.size = l.length := by subst h; simp [ByteArray.size]

/-- join of six numbers, the result behind a name. -/
def IsStr (l : List UInt8) (n : Nat) (B : Nat) (w : World) (e : Ending) (w' : World) : Prop := ∃ s : ByteArray, e = .returned (.string s) ∧ s = ⟨l.toArray⟩ ∧ s.size ≤ n ∧ Below B w w'
theorem add_str (a b : ByteArray) (h : a.size + b.size ≤ 9223372036854775807) (W : World) : (binOp .add 9 (.string a) (.string b)).run Tryz.prog W = .ok (.string (a ++ b)) W := by
  simp [binOp, run_string_add_sum W a b h]
theorem cat3 (a b c : List UInt8) : (⟨a.toArray⟩ : ByteArray) ++ (⟨b.toArray⟩ ++ ⟨c.toArray⟩) = ⟨(a ++ (b ++ c)).toArray⟩ := by rw [ByteArray.mk_append_mk, ByteArray.mk_append_mk]
theorem cat3b (a b c : List UInt8) : ((⟨a.toArray⟩ : ByteArray) ++ ⟨b.toArray⟩) ++ ⟨c.toArray⟩ = ⟨(a ++ (b ++ c)).toArray⟩ := by rw [ByteArray.mk_append_mk, ByteArray.mk_append_mk, List.append_assoc]
theorem one_size (b : UInt8) : (⟨#[b]⟩ : ByteArray).size = 1 := rfl
end Go.Proofs.YtgegbgkokkdmpaaGreat

namespace Go.Proofs.YtgegbgkokkdmpaaGreat
open Go.RowKit

/-- r is a region and x a distance. -/
def chkV (rs : List Rc) (x : Int) : Bool := isReg rs && inB 1 x 8
theorem chkV_yes {rs : List Rc} {x : Int} (h : chkV rs x = true) : isReg rs = true ∧ inB 1 x 8 = true := by simpa [chkV] using h
theorem chkV_no {rs : List Rc} {x : Int} (h : isReg rs = false) : chkV rs x = false := by simp [chkV, h]
theorem chkV_of {rs : List Rc} {x : Int} (h : isReg rs = true) : chkV rs x = inB 1 x 8 := by simp [chkV, h]
theorem okAll_at {rs : List Rc} (h : okAll rs = true) {k : Nat} {r : Rc} (hr : rs[k]? = some r) : okRc r = true := by
  rw [okAll, List.all_eq_true] at h
  exact h r (List.mem_of_getElem? hr)

end Go.Proofs.YtgegbgkokkdmpaaGreat

namespace Go.Proofs.YtgegbgkokkdmpaaGreat
open Go.RowKit

end Go.Proofs.YtgegbgkokkdmpaaGreat

namespace Go.Proofs.YtgegbgkokkdmpaaGreat
open Go.RowKit

/-- The runs of a region. -/
def runsV (vert : Bool) (rs : List Rc) : List Rc := if isReg rs = true then runsG (cellsG rs) vert else []
theorem runsV_yes {vert : Bool} {rs : List Rc} (h : isReg rs = true) : runsV vert rs = runsG (cellsG rs) vert := if_pos h
theorem runsV_no {vert : Bool} {rs : List Rc} (h : isReg rs = false) : runsV vert rs = [] := if_neg (by rw [h]; simp)
theorem runsV_length (vert : Bool) (rs : List Rc) : (runsV vert rs).length ≤ 1000000 := by
  unfold runsV
  split
  · exact Nat.le_trans (runsG_length _ _) (by omega)
  · simp
theorem okAll_reg {rs : List Rc} (h : isReg rs = true) : okAll rs = true := ((isReg_iff rs).1 h).2.1

end Go.Proofs.YtgegbgkokkdmpaaGreat

namespace Go.Proofs.YtgegbgkokkdmpaaGreat
open Go.RowKit

/-- The least width of a region. -/
def minV (rs : List Rc) : Int := if isReg rs = true then minA (allG (cellsG rs)) else -1
theorem minV_yes {rs : List Rc} (h : isReg rs = true) : minV rs = minA (allG (cellsG rs)) := if_pos h
theorem minV_no {rs : List Rc} (h : isReg rs = false) : minV rs = -1 := if_neg (by rw [h]; simp)

end Go.Proofs.YtgegbgkokkdmpaaGreat

namespace Go.Proofs.YtgegbgkokkdmpaaGreat
open Go.RowKit

/-- The cells of the runs that are too short. -/
def markV (rs : List Rc) (x : Int) : List Rc := if chkV rs x = true then canon (shortG (allG (cellsG rs)) x) else []
theorem markV_yes {rs : List Rc} {x : Int} (h : chkV rs x = true) : markV rs x = canon (shortG (allG (cellsG rs)) x) := if_pos h
theorem markV_no {rs : List Rc} {x : Int} (h : chkV rs x = false) : markV rs x = [] := if_neg (by rw [h]; simp)
theorem markV_length (rs : List Rc) (x : Int) : (markV rs x).length ≤ 1000000 := by
  unfold markV
  split
  · exact Nat.le_trans (canon_length _) (by omega)
  · simp

/-- Nothing is too short. -/
def wideV (rs : List Rc) (x : Int) : Bool := chkV rs x && (((markV rs x).length : Int) == 0)
theorem wideV_yes {rs : List Rc} {x : Int} (h : chkV rs x = true) : wideV rs x = (((markV rs x).length : Int) == 0) := by simp [wideV, h]
theorem wideV_no {rs : List Rc} {x : Int} (h : chkV rs x = false) : wideV rs x = false := by simp [wideV, h]

end Go.Proofs.YtgegbgkokkdmpaaGreat

namespace Go.Proofs.YtgegbgkokkdmpaaGreat
open Go.RowKit

/-- A witness, or none. -/
def witX (o : Option Rc) : Rc := o.getD ⟨0, 0, 0, 0⟩
def witB (o : Option Rc) : Bool := o.isSome
def witV (o : Option Rc) : Value := .tuple #[.agg #[.int .i64 (witX o).x0, .int .i64 (witX o).y0, .int .i64 (witX o).x1, .int .i64 (witX o).y1], .bool (witB o)]

/-- Four stores into a block of four. -/
theorem stored4 {w : World} {b : Nat} {t : TypeId} {a0 a1 a2 a3 : Value} (h : Bk w b t #[a0, a1, a2, a3]) (x0 x1 x2 x3 : Value) :
    (w.setCell ⟨b, 0, none⟩ x0).cell? ⟨b, 0, none⟩ = some x0 ∧ ((w.setCell ⟨b, 0, none⟩ x0).setCell ⟨b, 1, none⟩ x1).cell? ⟨b, 1, none⟩ = some x1 ∧
    (((w.setCell ⟨b, 0, none⟩ x0).setCell ⟨b, 1, none⟩ x1).setCell ⟨b, 2, none⟩ x2).cell? ⟨b, 2, none⟩ = some x2 ∧
    ((((w.setCell ⟨b, 0, none⟩ x0).setCell ⟨b, 1, none⟩ x1).setCell ⟨b, 2, none⟩ x2).setCell ⟨b, 3, none⟩ x3).cell? ⟨b, 3, none⟩ = some x3 :=
  ⟨(h.store 0 x0).cell 0, ((h.store 0 x0).store 1 x1).cell 1, (((h.store 0 x0).store 1 x1).store 2 x2).cell 2, ((((h.store 0 x0).store 1 x1).store 2 x2).store 3 x3).cell 3⟩

end Go.Proofs.YtgegbgkokkdmpaaGreat

namespace Go.Proofs.YtgegbgkokkdmpaaGreat
open Go.RowKit

/-- The first run that is too short. -/
def wwV (rs : List Rc) (x : Int) : Option Rc := if chkV rs x = true then firstA (allG (cellsG rs)) x else none
theorem wwV_yes {rs : List Rc} {x : Int} (h : chkV rs x = true) : wwV rs x = firstA (allG (cellsG rs)) x := if_pos h
theorem wwV_no {rs : List Rc} {x : Int} (h : chkV rs x = false) : wwV rs x = none := if_neg (by rw [h]; simp)

end Go.Proofs.YtgegbgkokkdmpaaGreat

namespace Go.Proofs.YtgegbgkokkdmpaaGreat
open Go.RowKit

theorem ret_intC {a b : Int} (h : a = b) : Ending.returned (.int .i64 a) = .returned (.int .i64 b) := by rw [h]
theorem oneG_yes {G : Gr} {i : Nat} (h : G i = true) : oneG G i = 1 := if_pos h
theorem oneG_no {G : Gr} {i : Nat} (h : G i = false) : oneG G i = 0 := if_neg (by rw [h]; simp)
theorem oneG_bounds (G : Gr) (i : Nat) : 0 ≤ oneG G i ∧ oneG G i ≤ 1 := by unfold oneG; split <;> omega
/-- What has been counted: m rows of n cells and k cells of one more. -/
def gotC (G : Gr) (b : Rc) (m k : Nat) : Int := sumI (fun y => rowC (oneG G) b.x0 y (b.x1 - b.x0).toNat) b.y0 m + rowC (oneG G) b.x0 (b.y0 + m) k
theorem rowC_bounds (G : Gr) (x0 y : Int) (n : Nat) : 0 ≤ rowC (oneG G) x0 y n ∧ rowC (oneG G) x0 y n ≤ 1 * n := sumI_bounds (by omega) n fun x => oneG_bounds G _
theorem gotC_bounds (G : Gr) {b : Rc} (hb : okRc b = true) {m k : Nat} (hm : m ≤ 80) (hk : k ≤ 80) : 0 ≤ gotC G b m k ∧ gotC G b m k ≤ 10000 := by
  rw [okRc_iff] at hb
  have h1 := sumI_bounds (f := fun y => rowC (oneG G) b.x0 y (b.x1 - b.x0).toNat) (a := b.y0) (m := 80) (by omega) m (fun y => by have := rowC_bounds G b.x0 y (b.x1 - b.x0).toNat; omega)
  have h2 := rowC_bounds G b.x0 (b.y0 + m) k
  unfold gotC
  omega
theorem gotC_zero (G : Gr) (b : Rc) (m : Nat) : gotC G b m 0 = sumI (fun y => rowC (oneG G) b.x0 y (b.x1 - b.x0).toNat) b.y0 m := by simp [gotC, rowC, sumI]
theorem gotC_start (G : Gr) (b : Rc) : gotC G b 0 0 = 0 := by simp [gotC, rowC, sumI]
theorem gotC_yes {G : Gr} {b : Rc} {m k : Nat} (h : G (ix (b.x0 + k) (b.y0 + m)).toNat = true) : gotC G b m (k + 1) = gotC G b m k + 1 := by
  simp only [gotC, rowC, sumI, oneG_yes h]
  omega
theorem gotC_no {G : Gr} {b : Rc} {m k : Nat} (h : G (ix (b.x0 + k) (b.y0 + m)).toNat = false) : gotC G b m (k + 1) = gotC G b m k := by
  simp only [gotC, rowC, sumI, oneG_no h]
  omega
theorem gotC_row {G : Gr} {b : Rc} {m k : Nat} (hk : (b.x1 - b.x0).toNat = k) : gotC G b m k = gotC G b (m + 1) 0 := by
  rw [gotC_zero, gotC, hk]; rfl
theorem gotC_all {G : Gr} {b : Rc} {m : Nat} (hm : (b.y1 - b.y0).toNat = m) : gotC G b m 0 = coverG G b := by
  rw [gotC_zero, coverG, boxC, hm]

end Go.Proofs.YtgegbgkokkdmpaaGreat

namespace Go.Proofs.YtgegbgkokkdmpaaGreat
open Go.RowKit

end Go.Proofs.YtgegbgkokkdmpaaGreat

namespace Go.Proofs.YtgegbgkokkdmpaaGreat
open Go.RowKit

/-- The covered cells of a box. -/
def covV (rs : List Rc) (b : Rc) : Int := if isReg rs = true ∧ okRc b = true then coverG (cellsG rs) b else -1
theorem covV_yes {rs : List Rc} {b : Rc} (h : isReg rs = true) (hb : okRc b = true) : covV rs b = coverG (cellsG rs) b := if_pos ⟨h, hb⟩
theorem covV_no {rs : List Rc} {b : Rc} (h : isReg rs = false) : covV rs b = -1 := if_neg (by rw [h]; simp)
theorem covV_bad {rs : List Rc} {b : Rc} (h : okRc b = false) : covV rs b = -1 := if_neg (by rw [h]; simp)
theorem len_reg {rs : List Rc} (h : isReg rs = true) : rs.length ≤ 100000 := Nat.le_trans ((isReg_iff rs).1 h).1 (by omega)

end Go.Proofs.YtgegbgkokkdmpaaGreat
