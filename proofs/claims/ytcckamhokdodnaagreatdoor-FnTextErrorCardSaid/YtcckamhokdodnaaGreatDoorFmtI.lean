/- Contracts: the lines of shapes, labels and instances, of the program and of the reference. Conditions: the shape, label or instance is valid; the program's tables are laid. -/
import Derived.Test.YtcckamhokdodnaaGreatDoorNames
import Derived.Test.YtcckamhokdodnaaGreatDoorValT
import Derived.Deep.RegionHeld3
namespace Go.Proofs.YtcckamhokdodnaaGreatDoor
open Go.RowKit

def numsT (ns : List Int) : List UInt8 := ns.flatMap fun n => 32 :: Lib.itoa n
theorem numsT_len {ns : List Int} (hN : ∀ n ∈ ns, -9223372036854775808 ≤ n ∧ n ≤ 9223372036854775807) : (numsT ns).length ≤ ns.length * 22 := by
  induction ns with
  | nil => simp [numsT]
  | cons n ns ih =>
    have h1 := itoa_len (hN n List.mem_cons_self)
    have h2 := ih fun m hm => hN m (List.mem_cons_of_mem _ hm)
    have e : numsT (n :: ns) = (32 :: Lib.itoa n) ++ numsT ns := by simp [numsT]
    rw [e, List.length_append, List.length_cons, List.length_cons, Nat.succ_mul]
    omega
theorem numsT_app (a b : List Int) : numsT (a ++ b) = numsT a ++ numsT b := by simp [numsT]
theorem numsT_snoc {ns : List Int} {k : Nat} {n : Int} (h : ns[k]? = some n) : numsT (ns.take (k + 1)) = numsT (ns.take k) ++ ([32] ++ Lib.itoa n) := by
  rw [List.take_add_one, h, Option.toList, numsT_app]
  simp [numsT]
/-- join, written as a first word, then each word behind a blank, then the numbers. -/
theorem joinV_words (s : ByteArray) (ss : List ByteArray) (ns : List Int) : joinV (s :: ss) ns = s.data.toList ++ ((ss.flatMap fun x => 32 :: x.data.toList) ++ numsT ns) := by
  unfold joinV
  rw [List.map_cons, List.cons_append, Lib.join_cons]
  congr 1
  unfold Lib.joinTail numsT
  rw [List.map_append, List.flatten_append, List.map_map, List.map_map]
  rfl
def ABC (n : Int) : Prop := -9223372036854775808 ≤ n ∧ n ≤ 9223372036854775807

/-- The program's join, the result behind a name. -/
theorem join_str (B : Nat) (v u : Value) (ss : List ByteArray) (ns : List Int) (w : World) (hT : TabB B w) (hv : SL w B v ss) (hu : IL w 0 u ns) (hB : B ≤ w.heap.size) (hN : ∀ n ∈ ns, -9223372036854775808 ≤ n ∧ n ≤ 9223372036854775807)
    (hs : ss.length ≤ 4) (hns : ns.length ≤ 6) (hne : ns ≠ []) (hsz : ∀ s ∈ ss, s.size ≤ 21) :
    Calls Tryz.prog 50 #[v, u] w (IsStr (joinV ss ns) 300 B w) := by
  refine (join_any B v u ss ns w hT hv hu hB hN (by omega) (by omega) hne (fun s h => Nat.le_trans (hsz s h) (by decide))).mono fun e w' ⟨he, hb⟩ => ⟨_, he, rfl, ?_, hb⟩
  rw [bytes_eq rfl]
  refine Nat.le_trans (joinV_len hN hsz) ?_
  have : (ss.length + ns.length) * 22 ≤ 10 * 22 := Nat.mul_le_mul_right _ (by omega)
  omega

def rectW : List UInt8 := [114, 101, 99, 116]
def labelW : List UInt8 := [108, 97, 98, 101, 108]
def placeW : List UInt8 := [112, 108, 97, 99, 101]
def arrayW : List UInt8 := [97, 114, 114, 97, 121]
def shapeT (s : ShapeD) : List UInt8 := rectW ++ (32 :: (nameOf layN s.layer).data.toList ++ numsT [s.box.x0, s.box.y0, s.box.x1, s.box.y1])
def labelT (l : LabelD) : List UInt8 := (labelW ++ (32 :: (nameOf layN l.layer).data.toList ++ numsT [l.x, l.y])) ++ ([32] ++ l.name.data.toList)
def oneB (i : InstD) : Bool := (i.cols == 1) && (i.rows == 1)
def headT (nm : ByteArray) (i : InstD) : List UInt8 := 32 :: nm.data.toList ++ (32 :: (nameOf oriN i.o).data.toList)
def instT (nm : ByteArray) (i : InstD) : List UInt8 := if oneB i = true then placeW ++ (headT nm i ++ numsT [i.x, i.y]) else arrayW ++ (headT nm i ++ numsT [i.x, i.y, i.cols, i.rows, i.sx, i.sy])

theorem SL.lit2 (w : World) {B g : Nat} (hg : w.heap.size = g) (hB : B ≤ g) (a b : ByteArray) : SL (w.alloc (.cells #[.string a, .string b] 9)) B (.slice (some ⟨g, 0, none⟩) 2 2) [a, b] := by subst hg; exact World.ownsRow_lit w _ 2 hB (by simp [maxLen]) rfl
theorem SL.lit3 (w : World) {B g : Nat} (hg : w.heap.size = g) (hB : B ≤ g) (a b c : ByteArray) : SL (w.alloc (.cells #[.string a, .string b, .string c] 9)) B (.slice (some ⟨g, 0, none⟩) 3 3) [a, b, c] := by subst hg; exact World.ownsRow_lit w _ 3 hB (by simp [maxLen]) rfl
theorem IL.lit2 (w : World) {g : Nat} (hg : w.heap.size = g) (a b : Int) : IL (w.alloc (.cells #[.int .i64 a, .int .i64 b] 2)) 0 (.slice (some ⟨g, 0, none⟩) 2 2) [a, b] := by subst hg; exact World.ownsRow_lit w _ 2 (Nat.zero_le _) (by simp [maxLen]) rfl
theorem IL.lit4 (w : World) {g : Nat} (hg : w.heap.size = g) (a b c d : Int) : IL (w.alloc (.cells #[.int .i64 a, .int .i64 b, .int .i64 c, .int .i64 d] 2)) 0 (.slice (some ⟨g, 0, none⟩) 4 4) [a, b, c, d] := by subst hg; exact World.ownsRow_lit w _ 4 (Nat.zero_le _) (by simp [maxLen]) rfl
theorem IL.litA (w : World) {g : Nat} (hg : w.heap.size = g) (a b c d e f : Int) : IL (w.alloc (.cells #[.int .i64 a, .int .i64 b, .int .i64 c, .int .i64 d, .int .i64 e, .int .i64 f] 2)) 0 (.slice (some ⟨g, 0, none⟩) 6 6) [a, b, c, d, e, f] := by subst hg; exact World.ownsRow_lit w _ 6 (Nat.zero_le _) (by simp [maxLen]) rfl
theorem shape_nums {s : ShapeD} (h : shapeB s = true) : ∀ n ∈ [s.box.x0, s.box.y0, s.box.x1, s.box.y1], -9223372036854775808 ≤ n ∧ n ≤ 9223372036854775807 := by
  have h2 : okRc s.box = true := by unfold shapeB at h; rw [Bool.and_eq_true] at h; exact h.2
  rw [okRc_iff] at h2
  intro n hn
  simp only [List.mem_cons, List.not_mem_nil, or_false] at hn
  rcases hn with rfl | rfl | rfl | rfl <;> omega
theorem name_small {s : ByteArray} (h : nameB s = true) : s.size ≤ 8 := by
  unfold nameB at h
  simp only [Bool.and_eq_true, decide_eq_true_eq] at h
  omega
theorem label_parts {l : LabelD} (h : labelB l = true) : (-40 ≤ l.x ∧ l.x ≤ 39 ∧ -40 ≤ l.y ∧ l.y ≤ 39) ∧ nameB l.name = true := by
  unfold labelB at h
  simp only [Bool.and_eq_true] at h
  exact ⟨(onC_iff _ _).1 h.1.2, h.2⟩
theorem inst_parts {i : InstD} {k : Int} (h : instB i k = true) : (0 ≤ i.cell ∧ i.cell ≤ k - 1) ∧ (-80 ≤ i.x ∧ i.x ≤ 80) ∧ (-80 ≤ i.y ∧ i.y ≤ 80) ∧ (1 ≤ i.cols ∧ i.cols ≤ 4) ∧ (1 ≤ i.rows ∧ i.rows ≤ 4) ∧ (-80 ≤ i.sx ∧ i.sx ≤ 80) ∧ (-80 ≤ i.sy ∧ i.sy ≤ 80) := by
  unfold instB transB at h
  simp only [Bool.and_eq_true, inB_iff] at h
  omega


set_option maxHeartbeats 3200000 in
set_option maxRecDepth 100000 in
theorem fmtShape_impl (B : Nat) (s : ShapeD) (w : World) (hE : Env B w) (hB : B ≤ w.heap.size) (h : shapeB s = true) :
    Calls Tryz.prog 24 #[.agg #[.int .i64 s.layer, .int .i64 s.box.x0, .int .i64 s.box.y0, .int .i64 s.box.x1, .int .i64 s.box.y1]] w (IsStr (shapeT s) 300 w.heap.size w) := by
  have hN := Lib.hid (shape_nums h)
  obtain ⟨nm, Hnm⟩ : ∃ nm, Hid (nm = nameOf layN s.layer) := ⟨_, Lib.hid rfl⟩
  have hnm : nm.size ≤ 21 := by rw [Hnm.out]; exact Nat.le_trans (lay_size _) (by decide)
  have Hsz := Lib.hid (show ∀ x ∈ [(⟨#[114, 101, 99, 116]⟩ : ByteArray), nm], x.size ≤ 21 from by intro x hx; simp only [List.mem_cons, List.not_mem_nil, or_false] at hx; rcases hx with rfl | rfl; decide; exact hnm)
  have b0 := (Below.refl w.heap.size w).alloc (Nat.le_refl _) (.cells #[.int .i64 s.layer, .int .i64 s.box.x0, .int .i64 s.box.y0, .int .i64 s.box.x1, .int .i64 s.box.y1] 62)
  have HE := Lib.hid (hE.more hB)
  clear hE
  go_enter Tryz.func24, Tryz.ntmps24
  go_wp2_with fail
  refine (shape_impl s _).mono ?_
  rintro e w1 ⟨rfl, hb1⟩
  rw [h]
  have x1 := (Bk.new w 62 #[.int .i64 s.layer, .int .i64 s.box.x0, .int .i64 s.box.y0, .int .i64 s.box.x1, .int .i64 s.box.y1]).on hb1
  have b1 := b0.trans (hb1.mono b0.size)
  have HS := Lib.hid (show ∀ W, Below w1.heap.size w1 W → W.cell? ⟨w.heap.size, 0, none⟩ = some (.int .i64 s.layer) ∧ W.cell? ⟨w.heap.size, 1, none⟩ = some (.int .i64 s.box.x0) ∧ W.cell? ⟨w.heap.size, 2, none⟩ = some (.int .i64 s.box.y0) ∧ W.cell? ⟨w.heap.size, 3, none⟩ = some (.int .i64 s.box.x1) ∧ W.cell? ⟨w.heap.size, 4, none⟩ = some (.int .i64 s.box.y1) from fun W hW => ⟨(x1.on hW).cell 0, (x1.on hW).cell 1, (x1.on hW).cell 2, (x1.on hW).cell 3, (x1.on hW).cell 4⟩)
  have B1 := Lib.hid b1
  have hs1 := b1.size
  have E1 := Lib.hid ((HE.out.on b1).more hs1)
  have t0 := Below.refl w1.heap.size w1
  have tc := Lib.hid t0.drew
  have tA := t0.alloc (Nat.le_refl _) (.cells #[.string ⟨#[114, 101, 99, 116]⟩, .string nm] 9)
  have tAA := tA.alloc tA.size (.cells #[.int .i64 s.box.x0, .int .i64 s.box.y0, .int .i64 s.box.x1, .int .i64 s.box.y1] 2)
  have tB := t0.alloc (Nat.le_refl _) (.cells #[.int .i64 s.box.x0, .int .i64 s.box.y0, .int .i64 s.box.x1, .int .i64 s.box.y1] 2)
  have tBB := tB.alloc tB.size (.cells #[.string ⟨#[114, 101, 99, 116]⟩, .string nm] 9)
  have SA := Lib.hid ((SL.lit2 w1 (B := w1.heap.size) (g := w1.heap.size) rfl (Nat.le_refl _) ⟨#[114, 101, 99, 116]⟩ nm).alloc (.cells #[.int .i64 s.box.x0, .int .i64 s.box.y0, .int .i64 s.box.x1, .int .i64 s.box.y1] 2)).drew
  have IA := Lib.hid (IL.drew (IL.lit4 (w1.alloc (.cells #[.string ⟨#[114, 101, 99, 116]⟩, .string nm] 9)) (g := w1.heap.size + 1) (by simp) s.box.x0 s.box.y0 s.box.x1 s.box.y1))
  have SB := Lib.hid (SL.lit2 (w1.alloc (.cells #[.int .i64 s.box.x0, .int .i64 s.box.y0, .int .i64 s.box.x1, .int .i64 s.box.y1] 2)) (B := w1.heap.size) (g := w1.heap.size + 1) (by simp) (by omega) ⟨#[114, 101, 99, 116]⟩ nm).drew
  have IB := Lib.hid (IL.drew (World.ownsRow.alloc (IL.lit4 w1 (g := w1.heap.size) rfl s.box.x0 s.box.y0 s.box.x1 s.box.y1) (.cells #[.string ⟨#[114, 101, 99, 116]⟩, .string nm] 9)))
  have TA := Lib.hid tA.drew
  have TB := Lib.hid tB.drew
  have TAA := Lib.hid tAA.drew
  have TBB := Lib.hid tBB.drew
  clear t0 tA tB tAA tBB
  clear x1 b0 b1 hb1 h hnm HE
  go_wp2
  go_region_held3 (fun w' => w'.cell? ⟨w.heap.size, 0, none⟩ = some (.int .i64 s.layer) ∧ w'.cell? ⟨w.heap.size, 1, none⟩ = some (.int .i64 s.box.x0) ∧ w'.cell? ⟨w.heap.size, 2, none⟩ = some (.int .i64 s.box.y0) ∧ w'.cell? ⟨w.heap.size, 3, none⟩ = some (.int .i64 s.box.x1) ∧ w'.cell? ⟨w.heap.size, 4, none⟩ = some (.int .i64 s.box.y1))
    (first | with_reducible exact HS.out _ tc.out | with_reducible exact HS.out _ TA.out | with_reducible exact HS.out _ TB.out | with_reducible exact HS.out _ TAA.out | with_reducible exact HS.out _ TBB.out | with_reducible exact HS.out _ tz)
    (first
    | (go_at_call 51; (with_reducible refine (layN_impl w1.heap.size _ _ (E1.out.on tc.out)).mono ?_); rintro e w7 ⟨rfl, rfl⟩; rw [← Hnm.out])
    | (go_at_call 51; (with_reducible refine (layN_impl w1.heap.size _ _ (E1.out.on TB.out)).mono ?_); rintro e w7 ⟨rfl, rfl⟩; rw [← Hnm.out])
    | (go_at_call 50; (with_reducible refine (join_str w1.heap.size _ _ [⟨#[114, 101, 99, 116]⟩, nm] [s.box.x0, s.box.y0, s.box.x1, s.box.y1] _ (E1.out.on TAA.out).tab SA.out IA.out TAA.out.size hN.out (by simp) (by simp) (by simp) Hsz.out).mono ?_); rintro e w8 ⟨js, rfl, hjs, hjl, hb8⟩; have Hjs := Lib.hid hjs; clear hjs; have tz := TAA.out.trans hb8)
    | (go_at_call 50; (with_reducible refine (join_str w1.heap.size _ _ [⟨#[114, 101, 99, 116]⟩, nm] [s.box.x0, s.box.y0, s.box.x1, s.box.y1] _ (E1.out.on TBB.out).tab SB.out IB.out TBB.out.size hN.out (by simp) (by simp) (by simp) Hsz.out).mono ?_); rintro e w8 ⟨js, rfl, hjs, hjl, hb8⟩; have Hjs := Lib.hid hjs; clear hjs; have tz := TBB.out.trans hb8))
  all_goals
    clear SA IA SB IB TA TB TAA TBB tc HS
    go_wp2
    go_ret
    refine ⟨_, rfl, ?_, Nat.le_trans hjl (by decide), B1.out.trans (tz.mono hs1)⟩
    rw [Hjs.out, joinV_words, Hnm.out]
    simp [shapeT, rectW, numsT]

set_option maxHeartbeats 3200000 in
set_option maxRecDepth 100000 in
theorem fmtLabel_impl (B : Nat) (l : LabelD) (w : World) (hE : Env B w) (hB : B ≤ w.heap.size) (h : labelB l = true) :
    Calls Tryz.prog 25 #[.agg #[.int .i64 l.layer, .int .i64 l.x, .int .i64 l.y, .string l.name]] w (IsStr (labelT l) 400 w.heap.size w) := by
  obtain ⟨hp, hnmB⟩ := label_parts h
  have hls := name_small hnmB
  have hN := Lib.hid (show ∀ n ∈ [l.x, l.y], -9223372036854775808 ≤ n ∧ n ≤ 9223372036854775807 from by intro n hn; simp only [List.mem_cons, List.not_mem_nil, or_false] at hn; rcases hn with rfl | rfl <;> omega)
  obtain ⟨nm, Hnm⟩ : ∃ nm, Hid (nm = nameOf layN l.layer) := ⟨_, Lib.hid rfl⟩
  have hnm : nm.size ≤ 21 := by rw [Hnm.out]; exact Nat.le_trans (lay_size _) (by decide)
  have Hsz := Lib.hid (show ∀ x ∈ [(⟨#[108, 97, 98, 101, 108]⟩ : ByteArray), nm], x.size ≤ 21 from by intro x hx; simp only [List.mem_cons, List.not_mem_nil, or_false] at hx; rcases hx with rfl | rfl; decide; exact hnm)
  obtain ⟨lx, Hlx⟩ : ∃ lx, Hid (lx = l.x) := ⟨_, Lib.hid rfl⟩
  have b1 := (Below.refl w.heap.size w).alloc (Nat.le_refl _) (.cells #[.int .i64 l.layer, .int .i64 l.x, .int .i64 l.y, .string l.name] 67)
  obtain ⟨w1, hw1⟩ : ∃ w1, Hid (w.alloc (.cells #[.int .i64 l.layer, .int .i64 l.x, .int .i64 l.y, .string l.name] 67) = w1) := ⟨_, Lib.hid rfl⟩
  have x1 := Bk.new w 67 #[.int .i64 l.layer, .int .i64 l.x, .int .i64 l.y, .string l.name]
  rw [hw1.out] at b1 x1
  have HS := Lib.hid (show ∀ W, Below w1.heap.size w1 W → W.cell? ⟨w.heap.size, 0, none⟩ = some (.int .i64 l.layer) ∧ W.cell? ⟨w.heap.size, 1, none⟩ = some (.int .i64 l.x) ∧ W.cell? ⟨w.heap.size, 2, none⟩ = some (.int .i64 l.y) ∧ W.cell? ⟨w.heap.size, 3, none⟩ = some (.string l.name) from fun W hW => ⟨(x1.on hW).cell 0, (x1.on hW).cell 1, (x1.on hW).cell 2, (x1.on hW).cell 3⟩)
  have B1 := Lib.hid b1
  have hs1 := b1.size
  have E1 := Lib.hid (((hE.more hB).on b1).more hs1)
  clear hE
  have t0 := Below.refl w1.heap.size w1
  have tc := Lib.hid t0.drew
  have tA := t0.alloc (Nat.le_refl _) (.cells #[.string ⟨#[108, 97, 98, 101, 108]⟩, .string nm] 9)
  have tAA := tA.alloc tA.size (.cells #[.int .i64 l.x, .int .i64 l.y] 2)
  have tB := t0.alloc (Nat.le_refl _) (.cells #[.int .i64 l.x, .int .i64 l.y] 2)
  have tBB := tB.alloc tB.size (.cells #[.string ⟨#[108, 97, 98, 101, 108]⟩, .string nm] 9)
  have SA := Lib.hid ((SL.lit2 w1 (B := w1.heap.size) (g := w1.heap.size) rfl (Nat.le_refl _) ⟨#[108, 97, 98, 101, 108]⟩ nm).alloc (.cells #[.int .i64 l.x, .int .i64 l.y] 2)).drew
  have IA := Lib.hid (IL.drew (IL.lit2 (w1.alloc (.cells #[.string ⟨#[108, 97, 98, 101, 108]⟩, .string nm] 9)) (g := w1.heap.size + 1) (by simp) l.x l.y))
  have SB := Lib.hid (SL.lit2 (w1.alloc (.cells #[.int .i64 l.x, .int .i64 l.y] 2)) (B := w1.heap.size) (g := w1.heap.size + 1) (by simp) (by omega) ⟨#[108, 97, 98, 101, 108]⟩ nm).drew
  have IB := Lib.hid (IL.drew (World.ownsRow.alloc (IL.lit2 w1 (g := w1.heap.size) rfl l.x l.y) (.cells #[.string ⟨#[108, 97, 98, 101, 108]⟩, .string nm] 9)))
  have TA := Lib.hid tA.drew
  have TB := Lib.hid tB.drew
  have TAA := Lib.hid tAA.drew
  have TBB := Lib.hid tBB.drew
  clear t0 tA tB tAA tBB
  clear x1 b1 h hnm hnmB hp
  go_enter Tryz.func25, Tryz.ntmps25
  go_wp2
  rw [hw1.out]
  go_region_held3 (fun w' => w'.cell? ⟨w.heap.size, 0, none⟩ = some (.int .i64 l.layer) ∧ w'.cell? ⟨w.heap.size, 1, none⟩ = some (.int .i64 l.x) ∧ w'.cell? ⟨w.heap.size, 2, none⟩ = some (.int .i64 l.y) ∧ w'.cell? ⟨w.heap.size, 3, none⟩ = some (.string l.name))
    (first | with_reducible exact HS.out _ tc.out | with_reducible exact HS.out _ TA.out | with_reducible exact HS.out _ TB.out | with_reducible exact HS.out _ TAA.out | with_reducible exact HS.out _ TBB.out | with_reducible exact HS.out _ tz)
    (first
    | (go_at_call 51; (with_reducible refine (layN_impl w1.heap.size _ _ (E1.out.on tc.out)).mono ?_); rintro e w7 ⟨rfl, rfl⟩; rw [← Hnm.out])
    | (go_at_call 51; (with_reducible refine (layN_impl w1.heap.size _ _ (E1.out.on TB.out)).mono ?_); rintro e w7 ⟨rfl, rfl⟩; rw [← Hnm.out])
    | (go_at_call 50; (with_reducible refine (join_str w1.heap.size _ _ [⟨#[108, 97, 98, 101, 108]⟩, nm] [l.x, l.y] _ (E1.out.on TAA.out).tab SA.out IA.out TAA.out.size hN.out (by simp) (by simp) (by simp) Hsz.out).mono ?_); rintro e w8 ⟨js, rfl, hjs, hjl, hb8⟩; have Hjs := Lib.hid hjs; clear hjs; have tz := TAA.out.trans hb8; have a0 : ¬ (9223372036854775807 < js.size + 1) := (by omega); have a1 : ¬ (9223372036854775807 < js.size + 1 + l.name.size) := (by omega))
    | (go_at_call 50; (with_reducible refine (join_str w1.heap.size _ _ [⟨#[108, 97, 98, 101, 108]⟩, nm] [l.x, l.y] _ (E1.out.on TBB.out).tab SB.out IB.out TBB.out.size hN.out (by simp) (by simp) (by simp) Hsz.out).mono ?_); rintro e w8 ⟨js, rfl, hjs, hjl, hb8⟩; have Hjs := Lib.hid hjs; clear hjs; have tz := TBB.out.trans hb8; have a0 : ¬ (9223372036854775807 < js.size + 1) := (by omega); have a1 : ¬ (9223372036854775807 < js.size + 1 + l.name.size) := (by omega)))
  all_goals
    clear SA IA SB IB TA TB TAA TBB tc HS
    go_wp2
    go_ret
    refine ⟨_, rfl, ?_, ?_, B1.out.trans (tz.mono hs1)⟩
    · rw [Hjs.out, joinV_words, Hnm.out]
      rw [show (⟨#[32]⟩ : ByteArray) = ⟨([32] : List UInt8).toArray⟩ from rfl, show l.name = ⟨l.name.data.toList.toArray⟩ from by simp, cat3b]
      simp [labelT, labelW, numsT]
    · rw [ByteArray.size_append, ByteArray.size_append, one_size]; omega

set_option maxHeartbeats 3200000 in
set_option maxRecDepth 100000 in
theorem fmtInst_impl (B : Nat) (A : Option Addr) (m cap k : Nat) (kk io ix iy ic ir isx isy : Int) (cs : List CellD) (nc : ByteArray) (w : World) (hE : Env B w) (hB : B ≤ w.heap.size) (hL : LibV w 0 (.slice A m cap) cs) (hm : m = cs.length) (hk : k < cs.length)
    (hc : (cs[k]?).map CellD.name = some nc) (hnc : nc.size ≤ 8) (h : instB ⟨(k : Int), io, ix, iy, ic, ir, isx, isy⟩ kk = true) :
    Calls Tryz.prog 26 #[.agg #[.slice A m cap], .agg #[.int .i64 (k : Int), .int .i64 io, .int .i64 ix, .int .i64 iy, .int .i64 ic, .int .i64 ir, .int .i64 isx, .int .i64 isy]] w (IsStr (instT nc ⟨(k : Int), io, ix, iy, ic, ir, isx, isy⟩) 300 w.heap.size w) := by
  have hp := inst_parts h
  simp only [] at hp
  have hN2 := Lib.hid (show ∀ n ∈ [ix, iy], -9223372036854775808 ≤ n ∧ n ≤ 9223372036854775807 from by intro n hn; simp only [List.mem_cons, List.not_mem_nil, or_false] at hn; rcases hn with rfl | rfl <;> omega)
  have hN6 := Lib.hid (show ∀ n ∈ [ix, iy, ic, ir, isx, isy], -9223372036854775808 ≤ n ∧ n ≤ 9223372036854775807 from by intro n hn; simp only [List.mem_cons, List.not_mem_nil, or_false] at hn; rcases hn with rfl | rfl | rfl | rfl | rfl | rfl <;> omega)
  obtain ⟨nm, Hnm⟩ : ∃ nm, Hid (nm = nameOf oriN io) := ⟨_, Lib.hid rfl⟩
  have hnm : nm.size ≤ 21 := by rw [Hnm.out]; exact Nat.le_trans (ori_size _) (by decide)
  have HszP := Lib.hid (show ∀ x ∈ [(⟨#[112, 108, 97, 99, 101]⟩ : ByteArray), nc, nm], x.size ≤ 21 from by intro x hx; simp only [List.mem_cons, List.not_mem_nil, or_false] at hx; rcases hx with rfl | rfl | rfl; decide; omega; exact hnm)
  have HszA := Lib.hid (show ∀ x ∈ [(⟨#[97, 114, 114, 97, 121]⟩ : ByteArray), nc, nm], x.size ≤ 21 from by intro x hx; simp only [List.mem_cons, List.not_mem_nil, or_false] at hx; rcases hx with rfl | rfl | rfl; decide; omega; exact hnm)
  obtain ⟨g, c, u, rfl, hck, hg, f0, -⟩ := hL.elem (hm ▸ hk : k < cs.length)
  rw [hck] at hc
  obtain rfl : c.name = nc := by simpa using hc
  obtain ⟨nc, hncE⟩ : ∃ nc, Hid (nc = c.name) := ⟨_, Lib.hid rfl⟩
  rw [← hncE.out] at hnc HszP HszA f0 ⊢
  have b1 := ((Below.refl w.heap.size w).alloc (Nat.le_refl _) (.cells #[.slice (some ⟨g, 0, none⟩) m cap] 26)).alloc (by simp) (.cells #[.int .i64 (k : Int), .int .i64 io, .int .i64 ix, .int .i64 iy, .int .i64 ic, .int .i64 ir, .int .i64 isx, .int .i64 isy] 72)
  obtain ⟨w1, hw1⟩ : ∃ w1, Hid ((w.alloc (.cells #[.slice (some ⟨g, 0, none⟩) m cap] 26)).alloc (.cells #[.int .i64 (k : Int), .int .i64 io, .int .i64 ix, .int .i64 iy, .int .i64 ic, .int .i64 ir, .int .i64 isx, .int .i64 isy] 72) = w1) := ⟨_, Lib.hid rfl⟩
  have x0 := (Bk.new w 26 #[.slice (some ⟨g, 0, none⟩) m cap]).alloc (.cells #[.int .i64 (k : Int), .int .i64 io, .int .i64 ix, .int .i64 iy, .int .i64 ic, .int .i64 ir, .int .i64 isx, .int .i64 isy] 72)
  have x1 := Bk.new' (w.alloc (.cells #[.slice (some ⟨g, 0, none⟩) m cap] 26)) (w.heap.size + 1) 72 #[.int .i64 (k : Int), .int .i64 io, .int .i64 ix, .int .i64 iy, .int .i64 ic, .int .i64 ir, .int .i64 isx, .int .i64 isy] (by simp)
  rw [hw1.out] at b1 x0 x1
  have f1 : w1.cell? ⟨g, k * 4, none⟩ = some (.string nc) := (b1.cell (p := ⟨g, k * 4, none⟩) hg).trans f0
  have HS := Lib.hid (show ∀ W, Below w1.heap.size w1 W → W.cell? ⟨w.heap.size, 0, none⟩ = some (.slice (some ⟨g, 0, none⟩) m cap) ∧ W.cell? ⟨w.heap.size + 1, 0, none⟩ = some (.int .i64 (k : Int)) ∧ W.cell? ⟨w.heap.size + 1, 1, none⟩ = some (.int .i64 io) ∧ W.cell? ⟨w.heap.size + 1, 2, none⟩ = some (.int .i64 ix) ∧ W.cell? ⟨w.heap.size + 1, 3, none⟩ = some (.int .i64 iy) ∧ W.cell? ⟨w.heap.size + 1, 4, none⟩ = some (.int .i64 ic) ∧ W.cell? ⟨w.heap.size + 1, 5, none⟩ = some (.int .i64 ir) ∧ W.cell? ⟨w.heap.size + 1, 6, none⟩ = some (.int .i64 isx) ∧ W.cell? ⟨w.heap.size + 1, 7, none⟩ = some (.int .i64 isy) ∧ W.cell? ⟨g, k * 4, none⟩ = some (.string nc) from fun W hW => ⟨(x0.on hW).cell 0, (x1.on hW).cell 0, (x1.on hW).cell 1, (x1.on hW).cell 2, (x1.on hW).cell 3, (x1.on hW).cell 4, (x1.on hW).cell 5, (x1.on hW).cell 6, (x1.on hW).cell 7, (hW.cell (p := ⟨g, k * 4, none⟩) (Nat.lt_of_lt_of_le hg b1.size)).trans f1⟩)
  have B1 := Lib.hid b1
  have hs1 := b1.size
  have E1 := Lib.hid (((hE.more hB).on b1).more hs1)
  have t0 := Below.refl w1.heap.size w1
  have tc := Lib.hid t0.drew
  have tA := t0.alloc (Nat.le_refl _) (.cells #[.string ⟨#[112, 108, 97, 99, 101]⟩, .string nc, .string nm] 9)
  have TA := Lib.hid tA.drew
  have SA := Lib.hid (SL.lit3 w1 (B := w1.heap.size) (g := w1.heap.size) rfl (Nat.le_refl _) ⟨#[112, 108, 97, 99, 101]⟩ nc nm).drew
  have hk0 : (0 : Int) ≤ (k : Int) := by omega
  have hk1 : (k : Int) < (m : Int) := by omega
  have hk2 : k < m := by omega
  clear hE x0 x1 b1 f0 f1 t0 tA hL hck hc hnm h hm hk
  go_enter Tryz.func26, Tryz.ntmps26
  go_wp2
  rw [hw1.out]
  go_region_held3 (fun w' => w'.cell? ⟨w.heap.size, 0, none⟩ = some (.slice (some ⟨g, 0, none⟩) m cap) ∧ w'.cell? ⟨w.heap.size + 1, 0, none⟩ = some (.int .i64 (k : Int)) ∧ w'.cell? ⟨w.heap.size + 1, 1, none⟩ = some (.int .i64 io) ∧ w'.cell? ⟨w.heap.size + 1, 2, none⟩ = some (.int .i64 ix) ∧ w'.cell? ⟨w.heap.size + 1, 3, none⟩ = some (.int .i64 iy) ∧ w'.cell? ⟨w.heap.size + 1, 4, none⟩ = some (.int .i64 ic) ∧ w'.cell? ⟨w.heap.size + 1, 5, none⟩ = some (.int .i64 ir) ∧ w'.cell? ⟨w.heap.size + 1, 6, none⟩ = some (.int .i64 isx) ∧ w'.cell? ⟨w.heap.size + 1, 7, none⟩ = some (.int .i64 isy) ∧ w'.cell? ⟨g, k * 4, none⟩ = some (.string nc))
    (first | with_reducible exact HS.out _ tc.out | with_reducible exact HS.out _ TA.out)
    (first | (go_at_call 10; (with_reducible refine (oriN_impl w1.heap.size _ _ (E1.out.on tc.out)).mono ?_); rintro e w7 ⟨rfl, rfl⟩; rw [← Hnm.out]))
  obtain ⟨w2, hw2⟩ : ∃ w2, Hid ((w1.alloc (.cells #[.string ⟨#[112, 108, 97, 99, 101]⟩, .string nc, .string nm] 9)).drew = w2) := ⟨_, Lib.hid rfl⟩
  rw [hw2.out]
  have tA := TA.out
  have sA := SA.out
  rw [hw2.out] at tA sA
  have hs2 : w2.heap.size = w1.heap.size + 1 := by rw [← hw2.out]; simp
  have x2 := sA.cellAt 0 (by decide)
  have x2f := sA.frozenAt 0
  obtain ⟨g0, q0, q1, q2, q3, q4, q5, q6, q7, -⟩ := HS.out w2 tA
  by_cases h1 : ic = 1 ∧ ir = 1
  · obtain ⟨rfl, rfl⟩ := h1
    have tB := tA.alloc tA.size (.cells #[.int .i64 ix, .int .i64 iy] 2)
    have SB := Lib.hid (sA.alloc (.cells #[.int .i64 ix, .int .i64 iy] 2))
    have IB := Lib.hid (IL.lit2 w2 (g := w1.heap.size + 1) hs2 ix iy)
    have TB := Lib.hid tB
    clear sA tA tB HS SA TA tc
    go_wp2_with (go_at_call 50; (with_reducible refine (join_str w1.heap.size _ _ [⟨#[112, 108, 97, 99, 101]⟩, nc, nm] [ix, iy] _ (E1.out.on TB.out).tab SB.out IB.out TB.out.size hN2.out (by simp) (by simp) (by simp) HszP.out).mono ?_); rintro e w8 ⟨js, rfl, hjs, hjl, hb8⟩; have Hjs := Lib.hid hjs; clear hjs; have tz := TB.out.trans hb8)
    go_ret
    refine ⟨_, rfl, ?_, Nat.le_trans hjl (by decide), B1.out.trans (tz.mono hs1)⟩
    rw [Hjs.out, joinV_words, Hnm.out]
    simp [instT, oneB, headT, placeW, numsT]
  · have ho : oneB ⟨(k : Int), io, ix, iy, ic, ir, isx, isy⟩ = false := by simp only [oneB, Bool.and_eq_false_iff, beq_eq_false_iff_ne]; exact Decidable.not_and_iff_or_not.1 h1
    have t3 := tA.setCell (p := ⟨w1.heap.size, 0, none⟩) (Nat.le_refl _) (.string ⟨#[97, 114, 114, 97, 121]⟩)
    have s3 : SL (w2.setCell ⟨w1.heap.size, 0, none⟩ (.string ⟨#[97, 114, 114, 97, 121]⟩)) w1.heap.size (.slice (some ⟨w1.heap.size, 0, none⟩) 3 3) [⟨#[97, 114, 114, 97, 121]⟩, nc, nm] := (sA.stored 0 _).1
    obtain ⟨G0, Q0, Q1, Q2, Q3, Q4, Q5, Q6, Q7, -⟩ := HS.out _ t3
    have IB := fun u v => Lib.hid (IL.litA (w2.setCell ⟨w1.heap.size, 0, none⟩ (.string ⟨#[97, 114, 114, 97, 121]⟩)) (g := w1.heap.size + 1) (by rw [← hs2]; simp [World.setCell]) ix iy u v isx isy)
    have TB := fun u v => Lib.hid (t3.alloc t3.size (.cells #[.int .i64 ix, .int .i64 iy, .int .i64 u, .int .i64 v, .int .i64 isx, .int .i64 isy] 2))
    have SB := fun u v => Lib.hid (s3.alloc (.cells #[.int .i64 ix, .int .i64 iy, .int .i64 u, .int .i64 v, .int .i64 isx, .int .i64 isy] 2))
    clear sA tA t3 s3 HS SA TA tc
    have h2 : (ic = 1 ∧ ¬ ir = 1) ∨ ¬ ic = 1 := by omega
    rcases h2 with ⟨rfl, h2⟩ | h2
    all_goals
      go_wp2_with (go_at_call 50; (with_reducible refine (join_str w1.heap.size _ _ [⟨#[97, 114, 114, 97, 121]⟩, nc, nm] [ix, iy, _, _, isx, isy] _ (E1.out.on (TB _ _).out).tab (SB _ _).out (IB _ _).out (TB _ _).out.size hN6.out (by simp) (by simp) (by simp) HszA.out).mono ?_); rintro e w8 ⟨js, rfl, hjs, hjl, hb8⟩; have Hjs := Lib.hid hjs; clear hjs; have tz := (TB _ _).out.trans hb8)
      go_ret
      refine ⟨_, rfl, ?_, Nat.le_trans hjl (by decide), B1.out.trans (tz.mono hs1)⟩
      rw [Hjs.out, joinV_words, Hnm.out, instT, if_neg (by rw [ho]; decide)]
      simp [headT, arrayW, numsT]


end Go.Proofs.YtcckamhokdodnaaGreatDoor
