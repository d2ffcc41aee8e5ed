/- Contracts: the program's decimal and join. Conditions: the table of powers of ten is laid; few words. -/
import Derived.Test.YtcckamhokdodnaaGreatDoorNumb
import Derived.Test.YtcckamhokdodnaaGreatDoorShFmt
import Derived.Test.YtcckamhokdodnaaGreatDoorCombA
import Derived.Lib.Join
import Derived.Lib.SmallJoins
namespace Go.Proofs.YtcckamhokdodnaaGreatDoor
open Go.RowKit

theorem below_grow2 {B : Nat} {a w : World} (h : Below B a w) (hB : B ≤ w.heap.size) (os : Array Obj) : Below B a (Sort.grow w os) :=
  ⟨h.os, h.tape, h.output, by simp [Sort.grow]; have := h.size; omega, fun k hk => by
    have e : (Sort.grow w os).heap[k]? = w.heap[k]? := by simp only [Sort.grow]; rw [Array.getElem?_append_left (by omega)]
    exact e.trans (h.block k hk)⟩
/-- The table of the powers of ten is laid. -/
def Tab (w : World) : Prop := Lib.TabIs Tryz.prog w "internal/strconv.uint64pow10" .u64 Lib.pow10Tab
theorem tabAt : Tryz.prog.globalNamed "internal/strconv.uint64pow10" = some 3 := by kernel_rfl
theorem Tab.on {w w' : World} (h : Tab w) (hb : Below w.heap.size w w') : Tab w' := Joins.tab_stays tabAt h hb (Nat.le_refl _)
/-- .. and lies below block B. -/
def TabB (B : Nat) (w : World) : Prop := ∀ w', Below B w w' → Tab w'
theorem TabB.here {B : Nat} {w : World} (h : TabB B w) : Tab w := h w (Below.refl _ _)
theorem TabB.on {B : Nat} {w w' : World} (h : TabB B w) (hb : Below B w w') : TabB B w' := fun u hu => h u (hb.trans hu)
theorem TabB.more {B B' : Nat} {w : World} (h : TabB B w) (hB : B ≤ B') : TabB B' w := fun u hu => h u (hu.mono hB)
theorem Tab.at_ {w : World} (h : Tab w) : TabB w.heap.size w := fun _ hu => h.on hu

theorem decimal_any (n : Int) (w : World) (hn : -9223372036854775808 ≤ n ∧ n ≤ 9223372036854775807) (hT : Tab w) :
    Calls Tryz.prog 89 #[.int .i64 n] w fun e w' => e = .returned (.string ⟨(Lib.itoa n).toArray⟩) ∧ Below w.heap.size w w' := by
  obtain ⟨hn1, hn2⟩ := hn
  go_enter Tryz.func89, Tryz.ntmps89
  go_wp2_with fail
  refine (Tryz.strconv_FormatInt_10 n hn1 hn2 _ hT).mono ?_
  rintro e w1 ⟨rfl, k, os, rfl⟩
  have hb := below_grow2 (below_drewN (Below.refl w.heap.size w) k) (Nat.le_refl _) os
  go_wp2
  go_ret
  exact ⟨rfl, hb⟩

theorem infoStr : (Tryz.prog.info? 9).map (fun i => (i.zero, i.size, i.bytes)) = some (some (.string ⟨#[]⟩), 1, 16) := by kernel_rfl
/-- A row of strings. -/
def SL (w : World) (B : Nat) (v : Value) (ss : List ByteArray) : Prop := w.ownsRow B 9 1 v ss.length (ss.map Value.string)
section
variable {w w' : World} {B B' : Nat} {v : Value} {ss : List ByteArray}
theorem SL.on (h : SL w B v ss) (hb : Below w.heap.size w w') : SL w' B v ss := own_on h hb
theorem SL.less (h : SL w B v ss) (hB : B' ≤ B) : SL w B' v ss := own_less h hB
theorem SL.alloc (h : SL w B v ss) (o : Obj) : SL (w.alloc o) B v ss := World.ownsRow.alloc h o
theorem SL.drew (h : SL w B v ss) : SL w.drew B v ss := own_drewN h 1
theorem SL.nil (w : World) (B : Nat) : SL w B (.slice none 0 0) [] := World.ownsRow_nil w B _ _
theorem SL.form (h : SL w B v ss) : ∃ A cap, v = .slice A ss.length cap ∧ ss.length ≤ cap ∧ cap ≤ maxLen := by
  obtain ⟨A, cap, hv, h1, h2, _⟩ := own_form h
  exact ⟨A, cap, hv, h1, h2⟩
/-- The element k, in memory. -/
theorem SL.elem {A : Option Addr} {n c : Nat} (h : SL w B (.slice A n c) ss) {k : Nat} (hk : k < ss.length) : ∃ g x, A = some ⟨g, 0, none⟩ ∧ ss[k]? = some x ∧ B ≤ g ∧ g < w.heap.size ∧ w.cell? ⟨g, k, none⟩ = some (.string x) := by
  obtain ⟨A', cap, hv, h1, h2, h3⟩ := own_form h
  simp only [Value.slice.injEq] at hv
  obtain ⟨g, hA, hB, hg, hc, _⟩ := h3 (by omega)
  have hx : ss[k]? = some ss[k] := List.getElem?_eq_getElem hk
  exact ⟨g, ss[k], hv.1.trans hA, hx, hB, hg, hc k _ (by rw [List.getElem?_map, hx]; rfl)⟩
theorem SL.cells {g n c : Nat} (h : SL w B (.slice (some ⟨g, 0, none⟩) n c) ss) : ∀ (j : Nat) (x : ByteArray), ss[j]? = some x → w.cell? ⟨g, 0 + j, none⟩ = some (.string x) := by
  intro j x hx
  obtain ⟨g', x', e, hx', -, -, hc⟩ := h.elem (List.getElem?_eq_some_iff.1 hx).1
  cases e
  rw [hx] at hx'
  cases hx'
  rw [Nat.zero_add]
  exact hc
end
/-- 'words = append(words, s)'. -/
theorem wpList_append_S {w : World} {ops : Array Oper} {rest : List Oper} {o : Oper} {a : Act} {Q : Exit → Act → World → Prop} (hgd : o.guard = none) (s x : Operand)
    (ho : o.op = .call { callee := .builtin .append, args := #[s, x], argTypes := #[79, 79] })
    (B : Nat) (v : Value) (ss : List ByteArray) (hs : a.eval s = v) (hown : SL w B v ss) (u : ByteArray) (hx : a.eval x = .slice (some ⟨w.heap.size, 0, none⟩) 1 1) (hlen : ss.length ≤ 1000000) (hB : B ≤ w.heap.size)
    (h : ∀ v' w', SL w' B v' (ss ++ [u]) → w.grownBy w' v.ownBlock → Below B w w' → wpList Tryz.prog ops Q rest (a.put o.dst v') w') :
    wpList Tryz.prog ops Q (o :: rest) a (w.alloc (.cells #[.string u] 9)) := by
  refine wpList_append_G hgd s x 9 79 1 16 _ infoStr Tryz.underlying79 rfl (by decide) (by decide) ho B v ss.length _ hs hown [.string u] rfl (by simp [Value.oneCell']) hx hlen hB ?_
  intro v' w' k1 k2 k3
  exact h v' w' (by unfold SL; rw [List.length_append, List.map_append]; exact k1) k2 k3
theorem join_len (xs : List (List UInt8)) (sep : List UInt8) (m : Nat) (h : ∀ x ∈ xs, x.length ≤ m) : (Lib.join xs sep).length ≤ xs.length * (m + sep.length) := by
  cases xs with
  | nil => simp [Lib.join_nil]
  | cons x r =>
    rw [Lib.join_cons, List.length_append]
    have hx := h x List.mem_cons_self
    have : ∀ r : List (List UInt8), (∀ y ∈ r, y.length ≤ m) → (Lib.joinTail sep r).length ≤ r.length * (m + sep.length) := by
      intro r
      induction r with
      | nil => intro _; simp [Lib.joinTail]
      | cons y r ih =>
        intro hr
        have h1 := hr y List.mem_cons_self
        have h2 := ih fun z hz => hr z (List.mem_cons_of_mem _ hz)
        have e : Lib.joinTail sep (y :: r) = sep ++ y ++ Lib.joinTail sep r := by simp [Lib.joinTail]
        rw [e, List.length_append, List.length_append, List.length_cons, Nat.succ_mul]
        omega
    have h2 := this r fun y hy => h y (List.mem_cons_of_mem _ hy)
    rw [List.length_cons, Nat.succ_mul]
    omega

/-- Words, then numbers, with blanks between them. -/
def joinV (ss : List ByteArray) (ns : List Int) : List UInt8 := Lib.join (ss.map (·.data.toList) ++ ns.map Lib.itoa) [32]
def numsTo (ns : List Int) (k : Nat) : List ByteArray := (ns.take k).map fun n => ⟨(Lib.itoa n).toArray⟩
theorem numsTo_succ {ns : List Int} {k : Nat} {n : Int} (h : ns[k]? = some n) : numsTo ns (k + 1) = numsTo ns k ++ [⟨(Lib.itoa n).toArray⟩] := by
  unfold numsTo
  rw [List.take_add_one, h]
  simp
theorem joinV_eq (ss : List ByteArray) (ns : List Int) : Lib.join ((ss ++ numsTo ns ns.length).map (·.data.toList)) [32] = joinV ss ns := by
  unfold joinV numsTo
  rw [List.take_length, List.map_append, List.map_map]
  rfl

set_option maxHeartbeats 800000 in
set_option maxRecDepth 100000 in
/-- The program's join. -/
theorem join_any (B : Nat) (v u : Value) (ss : List ByteArray) (ns : List Int) (w : World) (hT : TabB B w) (hv : SL w B v ss) (hu : IL w 0 u ns) (hB : B ≤ w.heap.size) (hN : ∀ n ∈ ns, -9223372036854775808 ≤ n ∧ n ≤ 9223372036854775807)
    (hs : ss.length ≤ 20) (hns : ns.length ≤ 20) (hne : ns ≠ []) (hsz : ∀ s ∈ ss, s.size ≤ 1000) :
    Calls Tryz.prog 50 #[v, u] w fun e w' => e = .returned (.string ⟨(joinV ss ns).toArray⟩) ∧ Below B w w' := by
  obtain ⟨A, c, rfl, hc1, hc2⟩ := hu.form
  have h0 : 0 < ns.length := List.length_pos_iff.2 hne
  unfold maxLen at hc2
  have HN := Lib.hid hN
  have HU := Lib.hid hu
  have HT := Lib.hid hT
  have HSZ := Lib.hid hsz
  have o1 : SL w B v (ss ++ numsTo ns 0) := by rw [show numsTo ns 0 = [] by simp [numsTo], List.append_nil]; exact hv
  clear hN hu hT hsz hne hv
  go_enter Tryz.func50, Tryz.ntmps50
  go_wp2
  go_loopw [0, 9] (fun wv iv wr => ∃ (k : Nat) (ws : List ByteArray), k ≤ ns.length ∧ iv = .int .i64 k ∧ Hid (ws = ss ++ numsTo ns k) ∧ SL wr B wv ws ∧ IL wr 0 (.slice A ns.length c) ns ∧ Below B w wr ∧ B ≤ wr.heap.size) (fun _ iv _ => ns.length - (intOf iv).toNat)
  case atStart => exact ⟨0, _, Nat.zero_le _, rfl, Lib.hid rfl, o1, HU.out, Below.refl _ _, hB⟩
  case round =>
    obtain ⟨k, ws, hk, rfl, Hws, hW, hU, hb, hsz⟩ := hrel
    clear o1
    have hwl : ws.length ≤ 40 := by rw [Hws.out]; simp [numsTo]; omega
    obtain ⟨A2, c2, rfl, hc21, hc22⟩ := hW.form
    unfold maxLen at hc22
    by_cases hlt : k < ns.length
    · obtain ⟨g, x, rfl, hx, -, -, hc⟩ := hU.elem hlt
      have hxN := HN.out x (List.mem_of_getElem? hx)
      have Hsucc := Lib.hid (numsTo_succ hx)
      have hT1 := (HT.out.on hb).here
      clear hx
      go_wp2_with (first
        | (go_at_call 89; refine (decimal_any x _ hxN hT1).mono ?_; rintro e w2 ⟨rfl, hb2⟩)
        | (at_builtin; refine wpList_append_S rfl (.tmp 13) (.tmp 16) rfl B _ ws rfl (hW.on hb2) ⟨(Lib.itoa x).toArray⟩ rfl (by omega) (Nat.le_trans hsz hb2.size) ?_; intro v' w3 hV3 hg3 hb3))
      go_roundw
      case rel => exact ⟨k + 1, _, hlt, by go_num, Lib.hid (by rw [Hws.out, Hsucc.out, List.append_assoc]), hV3, World.ownsRow.kept (hU.on hb2) hg3 (own_types (hU.on hb2) (hW.on hb2) (by decide)), (hb.trans (hb2.mono hsz)).trans hb3, Nat.le_trans (Nat.le_trans hsz hb2.size) hb3.size⟩
      case measure => simp [intOf]; omega
    · obtain rfl : k = ns.length := by omega
      have hwl2 : 0 < ws.length := by rw [Hws.out]; simp [numsTo]; omega
      obtain ⟨g, x0, rfl, -, -, hg, -⟩ := hW.elem hwl2
      have hcells := Lib.hid hW.cells
      have hjl : (Lib.join (ws.map (·.data.toList)) [32]).length ≤ 140737488355328 := by
        refine Nat.le_trans (join_len _ _ 1000 ?_) ?_
        · intro y hy
          obtain ⟨s, hs, rfl⟩ := List.mem_map.1 hy
          rw [Hws.out] at hs
          rcases List.mem_append.1 hs with h | h
          · have := HSZ.out s h
            show s.data.toList.length ≤ 1000
            rw [Array.length_toList]
            exact this
          · obtain ⟨n, hn, rfl⟩ := List.mem_map.1 h
            have := itoa_len (HN.out n (List.mem_of_mem_take hn))
            exact Nat.le_trans this (by decide)
        · rw [List.length_map]
          exact Nat.le_trans (Nat.mul_le_mul_right (1000 + [(32 : UInt8)].length) hwl) (by decide)
      have Hjl := Lib.hid hjl
      have Heq : Hid (Lib.join (ws.map (·.data.toList)) [32] = joinV ss ns) := Lib.hid (by rw [Hws.out, joinV_eq])
      clear hjl
      go_wp2_with (go_at_call 90; refine (Tryz.strings_Join g 0 _ ws ⟨#[32]⟩ _ hcells.out hg (by omega) (by omega) Hjl.out).mono ?_; rintro e w2 ⟨rfl, hb2⟩)
      go_ret
      exact ⟨by rw [← Heq.out]; rfl, hb.trans (hb2.mono hsz)⟩

theorem joinV_len {ss : List ByteArray} {ns : List Int} (hN : ∀ n ∈ ns, -9223372036854775808 ≤ n ∧ n ≤ 9223372036854775807) (hs : ∀ s ∈ ss, s.size ≤ 21) : (joinV ss ns).length ≤ (ss.length + ns.length) * 22 := by
  unfold joinV
  refine Nat.le_trans (join_len _ _ 21 ?_) (by simp)
  intro y hy
  rcases List.mem_append.1 hy with h | h
  · obtain ⟨s, h', rfl⟩ := List.mem_map.1 h
    exact hs s h'
  · obtain ⟨n, h', rfl⟩ := List.mem_map.1 h
    exact itoa_len (hN n h')

/-! ## Strings as byte lists -/
theorem bytes_eq {s : ByteArray} {l : List UInt8} (h : s = ⟨l.toArray⟩) : s.size = l.length := by subst h; simp [ByteArray.size]

/-- join of six numbers, the result behind a name. -/
def IsStr (l : List UInt8) (n : Nat) (B : Nat) (w : World) (e : Ending) (w' : World) : Prop := ∃ s : ByteArray, e = .returned (.string s) ∧ s = ⟨l.toArray⟩ ∧ s.size ≤ n ∧ Below B w w'
theorem number_is (n : Int) (w : World) (hn : -9223372036854775808 ≤ n ∧ n ≤ 9223372036854775807) : Calls Tryz.prog 73 #[.int .i64 n] w (IsStr (Lib.itoa n) 21 w.heap.size w) := by
  refine (number_spec n w hn).mono fun e w' ⟨he, hb⟩ => ⟨_, he, rfl, ?_, hb⟩
  rw [bytes_eq rfl]
  exact itoa_len hn
theorem add_str (a b : ByteArray) (h : a.size + b.size ≤ 9223372036854775807) (W : World) : (binOp .add 9 (.string a) (.string b)).run Tryz.prog W = .ok (.string (a ++ b)) W := by
  simp [binOp, run_string_add_sum W a b h]
theorem cat3 (a b c : List UInt8) : (⟨a.toArray⟩ : ByteArray) ++ (⟨b.toArray⟩ ++ ⟨c.toArray⟩) = ⟨(a ++ (b ++ c)).toArray⟩ := by rw [ByteArray.mk_append_mk, ByteArray.mk_append_mk]
theorem cat3b (a b c : List UInt8) : ((⟨a.toArray⟩ : ByteArray) ++ ⟨b.toArray⟩) ++ ⟨c.toArray⟩ = ⟨(a ++ (b ++ c)).toArray⟩ := by rw [ByteArray.mk_append_mk, ByteArray.mk_append_mk, List.append_assoc]
theorem one_size (b : UInt8) : (⟨#[b]⟩ : ByteArray).size = 1 := rfl
theorem Tab.alloc {w : World} (h : Tab w) (o : Obj) : Tab (w.alloc o) := h.on ((Below.refl _ _).alloc (Nat.le_refl _) o)

end Go.Proofs.YtcckamhokdodnaaGreatDoor
