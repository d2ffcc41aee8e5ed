/- Contracts: decimal numerals: the reference's l01Number. No conditions. Contracts of Go's library, proved once by the kit's shelf, laid at this seat's numbers: strings_Join_none, strings_Join, strconv_FormatInt_10. Conditions: as each says. -/
import Derived.Test.YtgegbgkokkdmpaaGreatQ02
import Derived.Lib.ItoaNum
import Derived.Lib.SlBytesRow
import Derived.Laws.AppendOwnNone
import Derived.Shelf.LaysM
import Derived.Shelf.Small.Bits
import Derived.Shelf.Strconv.Itoa0
import Derived.Shelf.Strconv.Itoa1
import Derived.Shelf.Strconv.Itoa2
import Derived.Shelf.Strconv.Itoa3
import Derived.Shelf.Strconv.Itoa4
import Derived.Shelf.Strings.Builder1
import Derived.Shelf.Strings.Builder2
import Derived.Shelf.Strings.OnBuilder
import Derived.Test.YtgegbgkokkdmpaaGreatProg

namespace Go.Proofs.YtgegbgkokkdmpaaGreat
open Go.RowKit

def byteV (b : UInt8) : Value := .int .u8 (b.toNat : Int)
/-- The slice value v is the list bs of bytes, in a row from block B on. -/
def BY (w : World) (B : Nat) (v : Value) (bs : List UInt8) : Prop := w.ownsRow B 5 1 v bs.length (bs.map byteV)
section
variable {w w' : World} {B B' : Nat} {v : Value} {bs : List UInt8}
theorem BY.on (h : BY w B v bs) (hb : Below w.heap.size w w') : BY w' B v bs := own_on h hb
theorem BY.less (h : BY w B v bs) (hB : B' ≤ B) : BY w B' v bs := own_less h hB
theorem BY.alloc (h : BY w B v bs) (o : Obj) : BY (w.alloc o) B v bs := World.ownsRow.alloc h o
theorem BY.drew (h : BY w B v bs) : BY w.drew B v bs := own_drewN h 1
theorem BY.lit0 (w : World) {B : Nat} (hB : B ≤ w.heap.size) : BY (w.alloc (.cells #[] 5)) B (.slice (some ⟨w.heap.size, 0, none⟩) 0 0) [] := World.ownsRow_lit w #[] 0 hB (by simp [maxLen]) rfl
theorem BY.lit1 (w : World) {B : Nat} (hB : B ≤ w.heap.size) (b : UInt8) : BY (w.alloc (.cells #[.int .u8 (b.toNat : Int)] 5)) B (.slice (some ⟨w.heap.size, 0, none⟩) 1 1) [b] := World.ownsRow_lit w #[.int .u8 (b.toNat : Int)] 1 hB (by simp [maxLen]) rfl
theorem BY.form (h : BY w B v bs) : ∃ A cap, v = .slice A bs.length cap ∧ bs.length ≤ cap ∧ cap ≤ maxLen ∧
    (∀ (k : Nat) (b : UInt8), bs[k]? = some b → ∃ g, A = some ⟨g, 0, none⟩ ∧ B ≤ g ∧ g < w.heap.size ∧ w.cell? ⟨g, k, none⟩ = some (.int .u8 (b.toNat : Int))) := by
  obtain ⟨A, cap, hv, h1, h2, h3⟩ := own_form h
  refine ⟨A, cap, hv, h1, h2, fun k r hk => ?_⟩
  have hlt : k < bs.length := (List.getElem?_eq_some_iff.1 hk).1
  obtain ⟨g, hA, hg, hgw, hc, _⟩ := h3 (by omega)
  exact ⟨g, hA, hg, hgw, hc _ _ (by rw [List.getElem?_map, hk]; rfl)⟩
end

theorem infoByte : (Tryz.prog.info? 5).map (fun i => (i.zero, i.size, i.bytes)) = some (some (.int .u8 0), 1, 1) := by kernel_rfl

/-- 'append(a, b...)', a a list of bytes of the call's own. -/
theorem wpList_append_YY {w : World} {ops : Array Oper} {rest : List Oper} {o : Oper} {a : Act} {Q : Exit → Act → World → Prop} (hgd : o.guard = none) (s x : Operand)
    (ho : o.op = .call { callee := .builtin .append, args := #[s, x], argTypes := #[22, 22] })
    (B B' : Nat) (v u : Value) (rs qs : List UInt8) (hs : a.eval s = v) (hown : BY w B v rs) (hx : a.eval x = u) (hu : BY w B' u qs)
    (hlen : rs.length + qs.length ≤ 1000000) (hB : B ≤ w.heap.size)
    (h : ∀ v' w', BY w' B v' (rs ++ qs) → Below B w w' → wpList Tryz.prog ops Q rest (a.put o.dst v') w') :
    wpList Tryz.prog ops Q (o :: rest) a w := by
  obtain ⟨i, hi, hz, hsz, hby⟩ := info_parts infoByte
  have hu0 := hu
  unfold BY at hu
  rcases hu.2 with ⟨hv, hn⟩ | ⟨g, cap, cur, hv, hg, hh, hnc, hcm, hcs, htake⟩
  · have hq : qs = [] := List.length_eq_zero_iff.1 hn
    subst hq
    refine wpList_append_own_none hgd s x 22 ho B 5 i 1 Tryz.underlying22 hi v rs.length (rs.map byteV) hs hown (hx.trans hv) ?_
    exact h v w (by rw [List.append_nil]; exact hown) (Below.refl _ _)
  · refine wpList_append_own _ hgd s x 22 ho B 5 i _ 1 1 Tryz.underlying22 hi hz hsz hby rfl (by decide) v rs.length (rs.map byteV) hs hown ⟨g, 0, none⟩ qs.length cap
      (qs.map byteV) (hx.trans hv) (by simp) ?_ ?_ (by simp only [maxLen]; omega) (by omega) hB ?_
    · intro j y hy
      rw [Addr.add_lit, Nat.zero_add, cell_of_row w g j cur _ (0, 0) hh]
      rw [← htake, List.getElem?_take] at hy
      split at hy
      · simpa using hy
      · cases hy
    · intro y hy
      obtain ⟨r, _, rfl⟩ := List.mem_map.1 hy
      rfl
    · intro v' w' h1 h2 _
      refine h v' w' ?_ (below_own hown h2 hB)
      unfold BY
      rw [List.map_append, List.length_append]
      exact h1

/-- 'string(b)'. -/
theorem run_string_Y {w : World} {B : Nat} {v : Value} {bs : List UInt8} (h : BY w B v bs) (hne : bs ≠ []) : (convert 22 9 v).run Tryz.prog w = .ok (.string ⟨bs.toArray⟩) w := by
  obtain ⟨A, cap, rfl, h1, h2, h3⟩ := h.form
  have h0 : 0 < bs.length := List.length_pos_iff.2 hne
  obtain ⟨g, rfl, -⟩ := h3 0 bs[0] (List.getElem?_eq_getElem h0)
  have hl : (⟨bs.toArray⟩ : ByteArray).size = bs.length := by simp [ByteArray.size]
  have := Lib.run_convert_whole (P := Tryz.prog) w 22 5 9 Tryz.underlying22 Tryz.underlying5 Tryz.underlying9 g 0 ⟨bs.toArray⟩ (fun i hi => by
    rw [hl] at hi
    obtain ⟨g', e, _, _, hc⟩ := h3 i bs[i] (List.getElem?_eq_getElem hi)
    cases e
    rw [Nat.zero_add, hc]
    rfl) cap
  rw [hl] at this
  exact this

/-! ## Numerals -/

/-- What is left to write of a number, ahead of the digits that stand. -/
def digTo (m : Int) (out : List UInt8) : List UInt8 := if m = 0 then out else Lib.decDigits m.natAbs ++ out
theorem digTo_zero (out : List UInt8) : digTo 0 out = out := if_pos rfl
theorem digTo_step {m : Int} (h : m ≠ 0) (out : List UInt8) : digTo m out = digTo (m.tdiv 10) (UInt8.ofNat (48 + m.natAbs % 10) :: out) := by
  have e : (m.tdiv 10).natAbs = m.natAbs / 10 := by rw [Int.natAbs_tdiv]; rfl
  unfold digTo
  rw [if_neg h, Lib.decDigits]
  by_cases h1 : m.natAbs < 10
  · have : m.tdiv 10 = 0 := by apply Int.natAbs_eq_zero.1; rw [e]; omega
    rw [dif_pos h1, if_pos this, Nat.mod_eq_of_lt h1]
    rfl
  · have : ¬ m.tdiv 10 = 0 := by intro hc; rw [hc] at e; simp at e; omega
    rw [dif_neg h1, if_neg this, e, List.append_assoc]
    rfl
theorem digTo_start {n : Int} (h : n ≠ 0) : digTo n [] = Lib.decDigits n.natAbs := by rw [digTo, if_neg h, List.append_nil]
theorem digTo_len {m : Int} {out : List UInt8} : out.length ≤ (digTo m out).length := by
  unfold digTo
  split
  · exact Nat.le_refl _
  · rw [List.length_append]; omega
theorem dig_len {n : Nat} (h : n < 18446744073709551616) : (Lib.decDigits n).length ≤ 20 := by
  rw [Lib.decDigits_length]
  by_cases h0 : n = 0
  · subst h0; rw [Lib.nDigits_small (by decide)]; decide
  · obtain ⟨h1, h2⟩ := Lib.numDigits_eq n (by omega) h
    split at h1 <;> omega
theorem itoa_len {n : Int} (h : -9223372036854775808 ≤ n ∧ n ≤ 9223372036854775807) : (Lib.itoa n).length ≤ 21 := by

  unfold Lib.itoa
  split
  · rw [List.length_cons]; have := @dig_len n.natAbs (by omega); omega
  · have := @dig_len n.toNat (by omega); omega
theorem decDigits_ne (n : Nat) : Lib.decDigits n ≠ [] := by
  intro h
  have := Lib.decDigits_length n
  rw [h] at this
  have := Lib.nDigits_pos n
  simp at *
  omega

theorem u8_wrap {d : Int} (h0 : 0 ≤ d) (h1 : d ≤ 9) : IntKind.u8.wrap (48 + d) = ((UInt8.ofNat (48 + d.toNat)).toNat : Int) := by
  have : d = 0 ∨ d = 1 ∨ d = 2 ∨ d = 3 ∨ d = 4 ∨ d = 5 ∨ d = 6 ∨ d = 7 ∨ d = 8 ∨ d = 9 := by omega
  rcases this with rfl | rfl | rfl | rfl | rfl | rfl | rfl | rfl | rfl | rfl <;> decide

end Go.Proofs.YtgegbgkokkdmpaaGreat

namespace Go.Proofs
open Go.Shelf
end Go.Proofs
