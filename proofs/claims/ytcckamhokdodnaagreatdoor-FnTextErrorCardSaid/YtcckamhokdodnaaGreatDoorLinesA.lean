/- The lines of a text, plainly. No conditions. The lines of a text: textLines of the program, l15Lines of the reference. Conditions: a text of at most a million bytes; Go's own variable bytealg.MaxLen holds a number. -/
import Derived.Test.YtcckamhokdodnaaGreatDoorParM
import Derived.Lib.SplitLaws
namespace Go.Proofs.YtcckamhokdodnaaGreatDoor
open Go.RowKit

/-- The lines of a text's bytes; cur: the line that has begun. The last one may lack its newline. -/
def cutL (cur : List UInt8) : List UInt8 → List (List UInt8)
  | [] => if cur = [] then [] else [cur]
  | b :: r => if b = 10 then cur :: cutL [] r else cutL (cur ++ [b]) r
def linesT (s : ByteArray) : List ByteArray := (cutL [] s.data.toList).map fun l => ⟨l.toArray⟩
def dropE (xs : List (List UInt8)) : List (List UInt8) := if xs.getLast? = some [] then xs.dropLast else xs
def consH (cur : List UInt8) : List (List UInt8) → List (List UInt8)
  | [] => []
  | h :: t => (cur ++ h) :: t
theorem consH_nil (xs : List (List UInt8)) : consH [] xs = xs := by cases xs <;> rfl
theorem splitK_hit (c : UInt8) (k : Nat) (l : List UInt8) : Lib.splitK [c] 0 (k + 1) (c :: l) = [] :: Lib.splitK [c] 0 k l := by
  have hix : Lib.index (c :: l) [c] = 0 := by rw [Lib.index]; simp [List.isPrefixOf]
  rw [Lib.splitK, hix]
  simp
theorem splitK_on (c b : UInt8) (h : b ≠ c) (k : Nat) (l : List UInt8) : Lib.splitK [c] 0 k (b :: l) = consH [b] (Lib.splitK [c] 0 k l) := by
  have hp : ([c] : List UInt8).isPrefixOf (b :: l) = false := by simp [List.isPrefixOf, Ne.symm h]
  have hix : Lib.index (b :: l) [c] = if Lib.index l [c] == -1 then -1 else Lib.index l [c] + 1 := by rw [Lib.index, hp]; simp
  cases k with
  | zero => rfl
  | succ k =>
    rw [Lib.splitK, Lib.splitK, hix]
    by_cases hm : Lib.index l [c] = -1
    · simp [hm, consH]
    · have hge := Lib.index_ge l [c]
      obtain ⟨j, hj⟩ : ∃ j : Nat, Lib.index l [c] = j := ⟨(Lib.index l [c]).toNat, by omega⟩
      have e1 : ((j : Int) == -1) = false := by rw [beq_eq_false_iff_ne]; omega
      have e2 : ((j : Int) + 1 == -1) = false := by rw [beq_eq_false_iff_ne]; omega
      have e3 : ((j : Int) + 1).toNat = j + 1 := by omega
      simp only [hj, e1, e2, Bool.false_eq_true, if_false, e3, Int.toNat_natCast, consH]
      simp
theorem cutL_split : ∀ (l cur : List UInt8), cutL cur l = dropE (consH cur (Lib.splitK [10] 0 (l.count 10) l)) ∧ Lib.splitK [10] 0 (l.count 10) l ≠ []
  | [], cur => by
    refine ⟨?_, by simp [Lib.splitK]⟩
    simp only [List.count_nil, Lib.splitK, consH, List.append_nil, dropE, cutL]
    by_cases h : cur = [] <;> simp [h]
  | b :: l, cur => by
    by_cases hb : b = 10
    · subst hb
      obtain ⟨h1, h2⟩ := cutL_split l []
      rw [List.count_cons_self, splitK_hit]
      refine ⟨?_, by simp⟩
      rw [cutL, if_pos rfl, h1, consH_nil]
      simp only [consH, List.append_nil]
      obtain ⟨x, xs, hx⟩ := List.exists_cons_of_ne_nil h2
      rw [hx]
      unfold dropE
      rw [List.getLast?_cons_cons]
      split <;> simp
    · obtain ⟨h1, h2⟩ := cutL_split l (cur ++ [b])
      rw [List.count_cons_of_ne hb, splitK_on 10 b hb]
      obtain ⟨x, xs, hx⟩ := List.exists_cons_of_ne_nil h2
      rw [hx] at h1 ⊢
      refine ⟨?_, by simp [consH]⟩
      rw [cutL, if_neg hb, h1]
      simp [consH]
abbrev nlB : ByteArray := ⟨#[10]⟩
theorem lines_split (s : ByteArray) : ∃ xs : List ByteArray, Lib.splitB nlB 0 (Lib.countB s nlB) s = xs ∧ xs ≠ [] ∧ linesT s = if xs.getLast? = some ⟨#[]⟩ then xs.dropLast else xs := by
  refine ⟨_, rfl, ?_⟩
  obtain ⟨h1, h2⟩ := cutL_split s.data.toList []
  have hk : Lib.countB s nlB = s.data.toList.count 10 := by
    rw [Lib.countB]
    exact Lib.count_one 10 _
  have hd := Lib.splitB_data nlB 0 (Lib.countB s nlB) s
  generalize Lib.splitB nlB 0 (Lib.countB s nlB) s = xs at *
  rw [hk] at hd
  rw [consH_nil] at h1
  have hd' : xs.map (·.data.toList) = Lib.splitK [10] 0 (s.data.toList.count 10) s.data.toList := hd
  rw [← hd'] at h1 h2
  refine ⟨fun e => h2 (by rw [e]; rfl), ?_⟩
  unfold linesT
  rw [h1, dropE]
  have hid : ∀ ys : List ByteArray, (ys.map (·.data.toList)).map (fun l => (⟨l.toArray⟩ : ByteArray)) = ys := fun ys => by
    rw [List.map_map]
    conv => rhs; rw [← List.map_id ys]
    exact List.map_congr_left fun a _ => rfl
  have hl : (xs.map (·.data.toList)).getLast? = some [] ↔ xs.getLast? = some ⟨#[]⟩ := by
    rw [List.getLast?_map]
    cases xs.getLast? with
    | none => simp
    | some a =>
      simp only [Option.map_some, Option.some.injEq]
      constructor
      · intro h
        obtain ⟨⟨d⟩⟩ := a
        simp only at h
        rw [h]
      · intro h; rw [h]
  by_cases h : xs.getLast? = some ⟨#[]⟩
  · rw [if_pos (hl.2 h), if_pos h, ← List.map_dropLast, hid]
  · rw [if_neg (fun e => h (hl.1 e)), if_neg h, hid]

/-- What is left of a text's lines at place i, if a line began at place f. -/
def remT (s : ByteArray) (f i : Nat) : List ByteArray := if i ≤ s.size then (cutL ((s.data.toList.drop f).take (i - f)) (s.data.toList.drop i)).map fun l => ⟨l.toArray⟩ else []
theorem ext_mk (s : ByteArray) (f i : Nat) : s.extract f i = ⟨((s.data.toList.drop f).take (i - f)).toArray⟩ := by
  have h : (s.extract f i).data.toList = (s.data.toList.drop f).take (i - f) := by rw [Lib.extract_data]
  rw [← h]
theorem remT_zero (s : ByteArray) : remT s 0 0 = linesT s := by
  unfold remT linesT
  rw [if_pos (Nat.zero_le _)]
  simp
theorem drop_at {s : ByteArray} {i : Nat} (h : i < s.size) : s.data.toList.drop i = s[i] :: s.data.toList.drop (i + 1) := by
  rw [List.drop_eq_getElem_cons (by simpa using h)]
  rfl
theorem remT_nl {s : ByteArray} {f i : Nat} (h : i < s.size) (hb : s[i] = 10) : remT s f i = s.extract f i :: remT s (i + 1) (i + 1) := by
  unfold remT
  rw [if_pos (Nat.le_of_lt h), if_pos (by omega), drop_at h, cutL, if_pos hb, List.map_cons, ← ext_mk, Nat.sub_self, List.take_zero]
theorem remT_on {s : ByteArray} {f i : Nat} (h : i < s.size) (hf : f ≤ i) (hb : ¬ s[i] = 10) : remT s f i = remT s f (i + 1) := by
  unfold remT
  rw [if_pos (Nat.le_of_lt h), if_pos (by omega), drop_at h, cutL, if_neg hb]
  congr 2
  have h2 : i + 1 - f = (i - f) + 1 := by omega
  rw [h2, List.take_add_one, List.getElem?_drop, show f + (i - f) = i by omega, List.getElem?_eq_getElem (by simpa using h)]
  rfl
theorem drop_end (s : ByteArray) : s.data.toList.drop s.size = [] := List.drop_eq_nil_of_le (by simp)
theorem remT_last {s : ByteArray} {f : Nat} (h : f < s.size) : remT s f s.size = [s.extract f s.size] := by
  unfold remT
  rw [if_pos (Nat.le_refl _), drop_end, cutL, if_neg, List.map_cons, List.map_nil, ← ext_mk]
  intro e
  have := congrArg List.length e
  simp at this
  omega
theorem remT_none {s : ByteArray} {f : Nat} (h : s.size ≤ f) : remT s f s.size = [] := by
  unfold remT
  rw [if_pos (Nat.le_refl _), drop_end, cutL, if_pos, List.map_nil]
  rw [Nat.sub_eq_zero_of_le h, List.take_zero]
theorem remT_over (s : ByteArray) (f : Nat) : remT s f (s.size + 1) = [] := if_neg (by omega)

/-- A row, cut short. -/
theorem own_short {w : World} {B : Nat} {t : TypeId} {A : Option Addr} {n c N : Nat} {xs : List Value} (h : w.ownsRow B t 1 (.slice A n c) N xs) {m : Nat} (hm : m ≤ N) : w.ownsRow B t 1 (.slice A m c) m (xs.take m) := by
  obtain ⟨hl, h⟩ := h
  refine ⟨by rw [List.length_take]; omega, ?_⟩
  rcases h with ⟨e, hn⟩ | ⟨g, cap, cur, e, hb, hg, hnc, hmx, hsz, htk⟩
  · simp only [Value.slice.injEq] at e
    obtain ⟨rfl, _, rfl⟩ := e
    obtain rfl : m = 0 := by omega
    exact .inl ⟨rfl, rfl⟩
  · simp only [Value.slice.injEq] at e
    obtain ⟨rfl, rfl, rfl⟩ := e
    refine .inr ⟨g, c, cur, rfl, hb, hg, by omega, hmx, hsz, ?_⟩
    rw [← htk, List.take_take]
    congr 1
    omega

end Go.Proofs.YtcckamhokdodnaaGreatDoor

namespace Go.Proofs.YtcckamhokdodnaaGreatDoor
open Go.RowKit

/-- 'out = append(out, s)' on a long list. -/
theorem wpList_append_S2 {w : World} {ops : Array Oper} {rest : List Oper} {o : Oper} {a : Act} {Q : Exit → Act → World → Prop} (hgd : o.guard = none) (s x : Operand)
    (ho : o.op = .call { callee := .builtin .append, args := #[s, x], argTypes := #[79, 79] })
    (B : Nat) (v : Value) (ss : List ByteArray) (hs : a.eval s = v) (hown : SL w B v ss) (u : ByteArray) (hx : a.eval x = .slice (some ⟨w.heap.size, 0, none⟩) 1 1) (hlen : ss.length ≤ 2000000) (hB : B ≤ w.heap.size)
    (h : ∀ v' w', SL w' B v' (ss ++ [u]) → w.grownBy w' v.ownBlock → Below B w w' → wpList Tryz.prog ops Q rest (a.put o.dst v') w') :
    wpList Tryz.prog ops Q (o :: rest) a (w.alloc (.cells #[.string u] 9)) := by
  obtain ⟨i, hi, hz, hsz', hby'⟩ := info_parts infoStr
  refine wpList_append_own _ hgd s x 79 ho B 9 i _ 1 16 Tryz.underlying79 hi hz hsz' hby' rfl (by decide) v ss.length _ hs (World.ownsRow.alloc hown _) ⟨w.heap.size, 0, none⟩ 1 1 [.string u] hx rfl ?_ ?_ (by simp only [maxLen]; omega) ?_ (by simp; omega) ?_
  · intro j y hy
    rw [Addr.add_lit, World.cell?_alloc_new]
    simpa using hy
  · intro y hy
    simp only [List.mem_singleton] at hy
    subst hy; rfl
  · omega
  · intro v' w' h1 h2 _
    have h3 := grown_of_alloc h2
    refine h v' w' ?_ h3 (below_own hown h3 hB)
    unfold SL
    rw [List.length_append, List.map_append]
    exact h1
theorem lines_len (s : ByteArray) : (linesT s).length ≤ s.size := by
  have key : ∀ (l cur : List UInt8), (cutL cur l).length ≤ l.length + (if cur = [] then 0 else 1) := by
    intro l
    induction l with
    | nil =>
      intro cur
      by_cases h : cur = [] <;> simp [cutL, h]
    | cons b l ih =>
      intro cur
      rw [cutL]
      split
      · have := ih []
        simp at this
        simp
        omega
      · have := ih (cur ++ [b])
        simp at this
        simp
        omega
  have := key s.data.toList []
  unfold linesT
  rw [List.length_map]
  simpa using this

set_option maxHeartbeats 1600000 in
set_option maxRecDepth 100000 in
theorem lines_impl (s : ByteArray) (m : Int) (w : World) (hs : s.size ≤ 1048576) (hm : w.cell? ⟨2, 0, none⟩ = some (.int .i64 m)) :
    Calls Tryz.prog 31 #[.string s] w fun e w' => ∃ v, e = .returned v ∧ SL w' w.heap.size v (linesT s) ∧ Below w.heap.size w w' := by
  obtain ⟨xs, hxs, hne, hlin⟩ := lines_split s
  have hlen : xs.length = Lib.countB s nlB + 1 := by rw [← hxs]; exact Lib.splitB_all nlB (by decide) 0 _ s rfl
  have hcl : Lib.countB s nlB ≤ s.size := Lib.countB_le nlB (by decide) s.size s (Nat.le_refl _)
  have HX := Lib.hid hxs
  have HL := Lib.hid hlin
  have Hlen := Lib.hid hlen
  obtain ⟨k, hk⟩ : ∃ k, k = Lib.countB s nlB := ⟨_, rfl⟩
  rw [← hk] at hcl
  have Hk := Lib.hid hk
  clear hxs hlin hlen hk
  have hxl : xs.length = k + 1 := by rw [Hlen.out, Hk.out]
  have HS : Hid (SL (w.alloc (.cells (xs.map Value.string).toArray 9)) w.heap.size (.slice (some ⟨w.heap.size, 0, none⟩) (k + 1) (k + 1)) xs) := Lib.hid (by
    have h := World.ownsRow_lit (e := 9) (size := 1) w (xs.map Value.string).toArray (k + 1) (Nat.le_refl w.heap.size) (by unfold maxLen; omega) (by simp; exact hxl)
    unfold SL
    rw [hxl]
    simpa using h)
  have Hxl := Lib.hid hxl
  have bb : Hid (Below w.heap.size w (w.alloc (.cells (xs.map Value.string).toArray 9))) := Lib.hid ((Below.refl _ _).alloc (Nat.le_refl _) _)
  clear hxl
  have HLa : Hid (∃ x, xs[k]? = some x ∧ xs.getLast? = some x) := Lib.hid (by
    have h : xs.getLast? = xs[k]? := by rw [List.getLast?_eq_getElem?, Hxl.out]; rfl
    have h2 : k < xs.length := by rw [Hxl.out]; omega
    exact ⟨xs[k], List.getElem?_eq_getElem h2, by rw [h, List.getElem?_eq_getElem h2]⟩)
  obtain ⟨x, hx1, hx2⟩ := HLa.out
  clear HLa
  have c0 : (w.alloc (.cells (xs.map Value.string).toArray 9)).cell? ⟨w.heap.size, k, none⟩ = some (.string x) := by
    have h := HS.out.cells k x hx1
    simpa using h
  go_enter Tryz.func31, Tryz.ntmps31
  go_wp2_with fail
  refine (Tryz.strings_Split s nlB m _ (by omega) hm (by decide)).mono ?_
  rintro e w1 ⟨rfl, hw1⟩
  rw [HX.out] at hw1
  rw [← Hk.out]
  have hw1' : w1 = w.alloc (.cells (xs.map Value.string).toArray 9) := hw1
  clear hw1
  rw [← hw1'] at HS bb c0
  clear hw1'
  have hk9 : k < 9223372036854775807 := by omega
  by_cases hxe : x = ⟨#[]⟩
  · subst hxe
    have HE : Hid (linesT s = xs.take k) := Lib.hid (by rw [HL.out, if_pos hx2, List.dropLast_eq_take, Hxl.out]; rfl)
    go_wp2
    go_ret
    refine ⟨_, rfl, ?_, bb.out⟩
    have h := own_short HS.out (m := k) (by rw [Hxl.out]; omega)
    rw [HE.out]
    unfold SL
    rw [List.length_take, Hxl.out, Nat.min_eq_left (by omega), List.map_take]
    exact h
  · have hne2 : x.toList.isEmpty = false := by
      have h := ne_list hxe
      cases e : x.toList with
      | nil => rw [e] at h; simp at h
      | cons a l => rfl
    have HE : Hid (linesT s = xs) := Lib.hid (by rw [HL.out, if_neg]; rw [hx2]; simpa using hxe)
    go_wp2
    go_ret
    exact ⟨_, rfl, by rw [HE.out]; exact HS.out, bb.out⟩

set_option maxHeartbeats 1600000 in
set_option maxRecDepth 100000 in
theorem lines_spec (s : ByteArray) (w : World) (hs : s.size ≤ 1048576) :
    Calls Tryz.prog 71 #[.string s] w fun e w' => ∃ v, e = .returned v ∧ SL w' w.heap.size v (linesT s) ∧ Below w.heap.size w w' := by
  have H0 : Hid ([] ++ remT s 0 0 = linesT s) := Lib.hid (remT_zero s)
  go_enter Tryz.func71, Tryz.ntmps71
  go_wp2
  go_loopw [3, 4, 5] (fun ov fv iv wr => ∃ (i f : Nat) (out : List ByteArray), i ≤ s.size + 1 ∧ f ≤ i ∧ iv = .int .i64 i ∧ fv = .int .i64 f ∧ SL wr w.heap.size ov out ∧ out.length ≤ i ∧ Hid (out ++ remT s f i = linesT s) ∧ Below w.heap.size w wr) (fun _ _ iv _ => s.size + 1 - (intOf iv).toNat)
  case atStart =>
    refine ⟨0, 0, [], Nat.zero_le _, Nat.le_refl _, rfl, rfl, ?_, Nat.le_refl _, H0, (Below.refl _ _).alloc (Nat.le_refl _) _⟩
    exact World.ownsRow_lit (e := 9) (size := 1) w #[] 0 (Nat.le_refl _) (by simp [maxLen]) rfl
  case round =>
    obtain ⟨i, f, out, hi, hf, rfl, rfl, hO, hl, Hrun, hb⟩ := hrel
    have hi9 : i < 1048578 := by omega
    have hf9 : f < 1048578 := by omega
    have hol : out.length ≤ 2000000 := by omega
    by_cases hle : i ≤ s.size
    · by_cases hlt : i < s.size
      · by_cases h10 : s[i] = 10
        · have Hn : Hid ((out ++ [s.extract f i]) ++ remT s (i + 1) (i + 1) = linesT s) := Lib.hid (by rw [List.append_assoc, List.singleton_append, ← remT_nl hlt h10]; exact Hrun.out)
          go_wp2_with (at_builtin; refine wpList_append_S2 rfl (.tmp 35) (.tmp 40) rfl w.heap.size _ out rfl hO (s.extract f i) rfl hol hb.size ?_; intro v2 w2 hW2 hg2 hb2)
          go_roundw
          case rel => exact ⟨i + 1, i + 1, out ++ [s.extract f i], by omega, Nat.le_refl _, by go_num, by go_num, hW2, by simp; omega, Hn, hb.trans hb2⟩
          case measure => simp [intOf] <;> omega
        · have Hn : Hid (out ++ remT s f (i + 1) = linesT s) := Lib.hid (by rw [← remT_on hlt hf h10]; exact Hrun.out)
          have h33 : ¬ ((s[i].toNat : Int) = 10) := fun h => h10 (UInt8.toNat_inj.1 (by have e : (10 : UInt8).toNat = 10 := rfl; rw [e]; omega))
          have h34 : ((s[i].toNat : Int) == 10) = false := by simpa using h33
          have h35 : ¬ ((i : Int) = (s.size : Int)) := by omega
          have h36 : ((i : Int) == (s.size : Int)) = false := beq_eq_false_iff_ne.2 h35
          go_wp2
          go_roundw
          case rel => exact ⟨i + 1, f, out, by omega, by omega, by go_num, rfl, hO, by omega, Hn, hb⟩
          case measure => simp [intOf] <;> omega
      · obtain rfl : i = s.size := by omega
        by_cases hfs : f < s.size
        · have Hn : Hid ((out ++ [s.extract f s.size]) ++ remT s (s.size + 1) (s.size + 1) = linesT s) := Lib.hid (by rw [remT_over, List.append_nil, ← remT_last hfs]; exact Hrun.out)
          go_wp2_with (at_builtin; refine wpList_append_S2 rfl (.tmp 35) (.tmp 40) rfl w.heap.size _ out rfl hO (s.extract f s.size) rfl hol hb.size ?_; intro v2 w2 hW2 hg2 hb2)
          go_roundw
          case rel => exact ⟨s.size + 1, s.size + 1, out ++ [s.extract f s.size], by omega, Nat.le_refl _, by go_num, by go_num, hW2, by simp; omega, Hn, hb.trans hb2⟩
          case measure => simp [intOf] <;> omega
        · have Hn : Hid (out ++ remT s f (s.size + 1) = linesT s) := Lib.hid (by rw [remT_over, ← remT_none (s := s) (f := f) (by omega)]; exact Hrun.out)
          go_wp2
          go_roundw
          case rel => exact ⟨s.size + 1, f, out, by omega, by omega, by go_num, rfl, hO, by omega, Hn, hb⟩
          case measure => simp [intOf] <;> omega
    · obtain rfl : i = s.size + 1 := by omega
      have HE : Hid (out = linesT s) := Lib.hid (by have h := Hrun.out; rwa [remT_over, List.append_nil] at h)
      go_wp2
      go_ret
      exact ⟨_, rfl, by rw [← HE.out]; exact hO, hb⟩

end Go.Proofs.YtcckamhokdodnaaGreatDoor
