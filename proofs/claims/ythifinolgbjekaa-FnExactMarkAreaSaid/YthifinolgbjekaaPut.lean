/- Contracts: the program's put and cellsOf. No conditions. -/
import Derived.Test.YthifinolgbjekaaBits
namespace Go.Proofs.Ythifinolgbjekaa
open Go.RowKit

theorem orR_endY {G : Gr} {x0 x1 a b y : Int} (h : y = a ∨ y ≤ b) (hb : b ≤ y) : orR G ⟨x0, a, x1, y⟩ = orR G ⟨x0, a, x1, b⟩ := by
  funext i
  have : inR ⟨x0, a, x1, y⟩ i = inR ⟨x0, a, x1, b⟩ i := by
    rw [Bool.eq_iff_iff]
    simp only [inR_iff]
    omega
  simp only [orR, this]
theorem orR_endX {G : Gr} {a b x y0 y1 : Int} (h : x = a ∨ x ≤ b) (hb : b ≤ x) : orR G ⟨a, y0, x, y1⟩ = orR G ⟨a, y0, b, y1⟩ := by
  funext i
  have : inR ⟨a, y0, x, y1⟩ i = inR ⟨a, y0, b, y1⟩ i := by
    rw [Bool.eq_iff_iff]
    simp only [inR_iff]
    omega
  simp only [orR, this]
/-- A rectangle, clipped. -/
def clipR (r : Rc) : Rc := ⟨max r.x0 (-40), max r.y0 (-40), min r.x1 40, min r.y1 40⟩

set_option maxHeartbeats 800000 in
set_option maxRecDepth 100000 in
/-- put. -/
theorem put_any (g : Nat) (G : Gr) (r : Rc) (w : World) (hG : GB w g 62 G) :
    Calls Try.prog 58 #[.pointer (some ⟨g, 0, none⟩), r.val] w fun e w' => e = .returned (.tuple #[]) ∧ GB w' g 62 (orR G r) ∧ w.grownBy w' (some g) := by
  obtain ⟨x0, y0, x1, y1⟩ := r
  unfold Rc.val
  dsimp only
  have hclip : ∀ i, i < 6400 → orR G (clipR ⟨x0, y0, x1, y1⟩) i = orR G ⟨x0, y0, x1, y1⟩ i := fun i hi => orR_clip G ⟨x0, y0, x1, y1⟩ i hi
  have Hclip := Lib.hid hclip
  clear hclip
  have hgl := hG.lt
  have g0 := hG.alloc (.cells #[.int .i64 x0, .int .i64 y0, .int .i64 x1, .int .i64 y1] 37)
  have b0 : Bk (w.alloc (.cells #[.int .i64 x0, .int .i64 y0, .int .i64 x1, .int .i64 y1] 37)) w.heap.size 37 #[.int .i64 x0, .int .i64 y0, .int .i64 x1, .int .i64 y1] := Bk.new w _ _
  have o0 : w.grownBy (w.alloc (.cells #[.int .i64 x0, .int .i64 y0, .int .i64 x1, .int .i64 y1] 37)) (some g) := World.grownBy_alloc w _ _
  go_enter Try.func58, Try.ntmps58
  go_wp2
  go_loopw [4] (fun yv wr => ∃ y : Int, max y0 (-40) ≤ y ∧ (y = max y0 (-40) ∨ y ≤ min y1 40) ∧ yv = .int .i64 y ∧ GB wr g 62 (orR G ⟨max x0 (-40), max y0 (-40), min x1 40, y⟩) ∧ Bk wr w.heap.size 37 #[.int .i64 x0, .int .i64 y0, .int .i64 x1, .int .i64 y1] ∧ w.grownBy wr (some g)) (fun yv _ => (40 - intOf yv).toNat)
  case atStart => exact ⟨_, by omega, .inl rfl, rfl, by rw [orR_empty _ _ (.inr (Int.le_refl _))]; exact g0, b0, o0⟩
  case round =>
    obtain ⟨y, hy0, hy1, rfl, hG1, hB1, hO1⟩ := hrel
    have Hy1 := Lib.hid hy1
    clear g0 b0 o0 hy1
    obtain ⟨f0, f1, f2, f3⟩ := box4 hB1
    by_cases hy : y < min y1 40
    · go_wp2
      go_loopw [5] (fun xv wj => ∃ x : Int, max x0 (-40) ≤ x ∧ Hid (x = max x0 (-40) ∨ x ≤ min x1 40) ∧ xv = .int .i64 x ∧ GB wj g 62 (orR (orR G ⟨max x0 (-40), max y0 (-40), min x1 40, y⟩) ⟨max x0 (-40), y, x, y + 1⟩) ∧ Bk wj w.heap.size 37 #[.int .i64 x0, .int .i64 y0, .int .i64 x1, .int .i64 y1] ∧ w.grownBy wj (some g)) (fun xv _ => (40 - intOf xv).toNat)
      case atStart => exact ⟨_, by omega, Lib.hid (.inl rfl), rfl, by rw [orR_empty _ ⟨_, y, _, y + 1⟩ (.inl (Int.le_refl _))]; exact hG1, hB1, hO1⟩
      case round =>
        obtain ⟨x, hx0, hx1, rfl, hG2, hB2, hO2⟩ := hrel
        clear f0 f1 f2 f3 hG1 hB1 hO1
        obtain ⟨f0, f1, f2, f3⟩ := box4 hB2
        by_cases hx : x < min x1 40
        · have hon : onC x y = true := (onC_iff x y).2 (by omega)
          have hc := hG2.at_ hon
          have hz := hG2.frozen ((y + 40).toNat * 80 + (x + 40).toNat)
          have Hon := Lib.hid hon
          have hi0 : 0 ≤ y + 40 ∧ y + 40 < 80 := by omega
          have hi1 : 0 ≤ x + 40 ∧ x + 40 < 80 := by omega
          clear hon
          go_wp2
          refine ⟨⟨x + 1, by omega, Lib.hid (.inr (by omega)), rfl, ?_, hB2.other (by show w.heap.size ≠ g; omega) _, only_store hO2 _ _⟩, by simp [intOf]; omega⟩
          obtain ⟨e, hl⟩ := ix_nat Hon.out
          rw [← e] at hl ⊢
          exact (hG2.store hl true).cong (orR_step (by omega) hx0 Hon.out)
        · go_wp2
          refine ⟨⟨y + 1, by omega, .inr (by omega), rfl, ?_, hB2, hO2⟩, by simp [intOf]; omega⟩
          rw [orR_endX hx1.out (by omega)] at hG2
          exact hG2.cong (orR_row _ _ _ _ _ hy0)
    · go_wp2
      go_end0
      refine ⟨rfl, ?_, hO1⟩
      rw [orR_endY Hy1.out (by omega)] at hG1
      exact hG1.same Hclip.out

def isNo : Value → Bool | .bool b => !b | _ => false
theorem zero_all : Try.zeroCells62.toList.all isNo = true := by kernel_rfl
theorem zero_get (i : Nat) (h : i < 6400) : Try.zeroCells62[i]? = some (.bool false) := by
  have hs := Try.zeroCells62_size
  have hi : i < Try.zeroCells62.size := by rw [hs]; exact h
  have h1 : Try.zeroCells62[i]? = some (Try.zeroCells62[i]'hi) := Array.getElem?_eq_getElem hi
  have h2 := List.all_eq_true.1 zero_all (Try.zeroCells62[i]'hi) (by rw [Array.mem_toList_iff]; exact Array.getElem_mem hi)
  rw [h1]
  generalize Try.zeroCells62[i]'hi = v at h2
  cases v <;> simp [isNo] at h2
  simp [h2]
theorem GB.zero (w : World) (t : TypeId) : GB (w.alloc (.cells Try.zeroCells62 t)) w.heap.size t emptyG := ⟨_, Bk.new w t _, ⟨Nat.le_of_eq Try.zeroCells62_size.symm, fun _ => Try.zeroCells62_size⟩, zero_get⟩

theorem only_far {w w1 w2 : World} {B g : Nat} (hb : Below B w w1) (hg : w1.grownBy w2 (some g)) (hB : B ≤ w1.heap.size) (h : B ≤ g) : Below B w w2 := hb.grown hg hB fun _ e => by simp at e; omega

set_option maxHeartbeats 400000 in
set_option maxRecDepth 100000 in
/-- cellsOf. -/
theorem cellsOf_any (v : Value) (rs : List Rc) (w : World) (hv : RL w 0 v rs) : Calls Try.prog 73 #[v] w fun e w' => ∃ g, e = .returned (.pointer (some ⟨g, 0, none⟩)) ∧ w.heap.size ≤ g ∧ GB w' g 62 (cellsG rs) ∧ Below w.heap.size w w' := by
  obtain ⟨A, c, rfl, hc, hm, -⟩ := hv.form
  have hm' : rs.length ≤ 9223372036854775807 := by unfold maxLen at hm; omega
  have g0 := GB.zero w 62
  have b0 : Below w.heap.size w (w.alloc (.cells Try.zeroCells62 62)) := (Below.refl _ _).alloc (Nat.le_refl _) _
  go_enter Try.func73, Try.ntmps73
  go_wp2
  go_loopw [10] (fun i wr => ∃ k : Nat, k ≤ rs.length ∧ i = .int .i64 k ∧ GB wr w.heap.size 62 (cellsG (rs.take k)) ∧ Below w.heap.size w wr) (fun i _ => rs.length - (intOf i).toNat)
  case atStart => exact ⟨0, Nat.zero_le _, rfl, g0, b0⟩
  case round =>
    obtain ⟨k, hk, rfl, hG, hb⟩ := hrel
    clear g0 b0
    by_cases hlt : k < rs.length
    · obtain ⟨g, x0, y0, x1, y1, rfl, hr, hg, f0, f1, f2, f3⟩ := (hv.on hb).elem hlt
      have Hr := Lib.hid hr
      clear hr
      go_wp2_with (go_at_call 58; refine (put_any _ _ ⟨x0, y0, x1, y1⟩ _ (hG.alloc _)).mono ?_; rintro e w1 ⟨rfl, hG1, hO1⟩)
      refine ⟨⟨k + 1, by omega, by go_num, hG1.cong (cellsG_take_succ Hr.out).symm, only_far (hb.alloc hb.size _) hO1 (by simp; have := hb.size; omega) (Nat.le_refl _)⟩, by simp [intOf]; omega⟩
    · go_wp2
      go_ret
      have : k = rs.length := by omega
      subst this
      rw [List.take_length] at hG
      exact ⟨_, rfl, Nat.le_refl _, hG, hb⟩

end Go.Proofs.Ythifinolgbjekaa
