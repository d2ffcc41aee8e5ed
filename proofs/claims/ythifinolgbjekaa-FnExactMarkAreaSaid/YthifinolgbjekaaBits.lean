/- Contracts: the cells of a list of valid rectangles: the reference's l03Bits. Condition: the rectangles are valid. -/
import Derived.Test.YthifinolgbjekaaValid
namespace Go.Proofs.Ythifinolgbjekaa
open Go.RowKit

theorem GB.cong {w : World} {g : Nat} {t : TypeId} {G H : Gr} (h : GB w g t G) (e : G = H) : GB w g t H := e ▸ h

def noCells : Array Value := madeCells #[.bool false] 6400
theorem noCells_size : noCells.size = 6400 := size_madeCells _ _
theorem noCells_get (i : Nat) (h : i < 6400) : noCells[i]? = some (.bool false) := by
  have h1 : noCells.toList = List.replicate 6400 (.bool false) := toList_madeCells_one _ _
  rw [← Array.getElem?_toList, h1, List.getElem?_replicate, if_pos h]
theorem GB.made (w : World) (t : TypeId) : GB (w.alloc (.cells noCells t)) w.heap.size t emptyG := ⟨noCells, Bk.new w t _, ⟨Nat.le_of_eq noCells_size.symm, fun _ => noCells_size⟩, noCells_get⟩

theorem infoBool : (Try.prog.info? 4).map (fun i => (i.zero, i.size, i.bytes)) = some (some (.bool false), 1, 1) := by kernel_rfl
theorem run_make_6400 (w : World) : (Instr.makeSlice 49 (.int .i64 6400) (.int .i64 6400)).run Try.prog w = .ok (.slice (some ⟨w.heap.size, 0, none⟩) 6400 6400) (w.alloc (.cells noCells 4)) := by
  obtain ⟨i, hi, hz, hsz, hby⟩ := info_parts infoBool
  have := run_make (P := Try.prog) w 49 4 i (.bool false) Try.underlying49 hi hz .i64 .i64 6400 6400 (by omega) (by omega) (by rw [hby]; decide) (by omega)
  rw [this, hsz]
  rfl

theorem orR_step {G : Gr} {x0 x y : Int} (h2 : -40 ≤ x0) (h3 : x0 ≤ x) (hc : onC x y = true) : updG (orR G ⟨x0, y, x, y + 1⟩) (ix x y).toNat true = orR G ⟨x0, y, x + 1, y + 1⟩ := by
  rw [onC_iff] at hc
  exact orR_cell G x0 x y h2 h3 (by omega) _ (by unfold ix; omega)

theorem cellsG_take_succ {rs : List Rc} {k : Nat} {r : Rc} (h : rs[k]? = some r) : cellsG (rs.take (k + 1)) = orR (cellsG (rs.take k)) r := by
  rw [List.take_add_one, h]
  exact cellsG_snoc _ _

set_option maxHeartbeats 800000 in
set_option maxRecDepth 100000 in
/-- l03Bits. -/
theorem l03Bits_any (v : Value) (rs : List Rc) (w : World) (hv : RL w 0 v rs) (hok : okAll rs = true) : Calls Try.prog 46 #[v] w fun e w' => ∃ u, e = .returned u ∧ GS w' w.heap.size u (cellsG rs) ∧ Below w.heap.size w w' := by
  obtain ⟨A, c, rfl, hc, hm, -⟩ := hv.form
  have Hok := Lib.hid hok
  clear hok
  have hm' : rs.length ≤ 9223372036854775807 := by unfold maxLen at hm; omega
  have hmk := run_make_6400
  have g0 := GB.made w 4
  have b0 : Below w.heap.size w (w.alloc (.cells noCells 4)) := (Below.refl _ _).alloc (Nat.le_refl _) _
  go_enter Try.func46, Try.ntmps46
  go_wp2
  clear hmk
  go_loopw [4] (fun i wr => ∃ k : Nat, k ≤ rs.length ∧ i = .int .i64 k ∧ GB wr w.heap.size 4 (cellsG (rs.take k)) ∧ Below w.heap.size w wr) (fun i _ => rs.length - (intOf i).toNat)
  case atStart => exact ⟨0, Nat.zero_le _, rfl, g0, b0⟩
  case round =>
    obtain ⟨k, hk, rfl, hG, hb⟩ := hrel
    clear g0 b0
    by_cases hlt : k < rs.length
    · obtain ⟨g, x0, y0, x1, y1, rfl, hr, hg, f0, f1, f2, f3⟩ := (hv.on hb).elem hlt
      have Hr := Lib.hid hr
      have hval := (okRc_iff _).1 (okAll_get Hok.out hr)
      dsimp only at hval
      clear hr
      have hgw : g < w.heap.size := (own_lt hv g rfl).2
      go_wp2
      go_loopw [5] (fun yv wi => ∃ y : Int, y0 ≤ y ∧ y ≤ y1 ∧ yv = .int .i64 y ∧ GB wi w.heap.size 4 (orR (cellsG (rs.take k)) ⟨x0, y0, x1, y⟩) ∧ Below w.heap.size w wi) (fun yv _ => (40 - intOf yv).toNat)
      case atStart => exact ⟨y0, by omega, by omega, rfl, by rw [orR_empty _ _ (.inr (Int.le_refl _))]; exact hG, hb⟩
      case round =>
        obtain ⟨y, hy0, hy1, rfl, hG', hb'⟩ := hrel
        clear f0 f1 f2 f3 hG hb
        obtain ⟨f0, f1, f2, f3⟩ := (hv.on hb').four Hr.out
        by_cases hy : y < y1
        · go_wp2
          go_loopw [6] (fun xv wj => ∃ x : Int, x0 ≤ x ∧ x ≤ x1 ∧ xv = .int .i64 x ∧ GB wj w.heap.size 4 (orR (orR (cellsG (rs.take k)) ⟨x0, y0, x1, y⟩) ⟨x0, y, x, y + 1⟩) ∧ Below w.heap.size w wj) (fun xv _ => (40 - intOf xv).toNat)
          case atStart => exact ⟨x0, by omega, by omega, rfl, by rw [orR_empty _ ⟨x0, y, x0, y + 1⟩ (.inl (Int.le_refl _))]; exact hG', hb'⟩
          case round =>
            obtain ⟨x, hx0, hx1, rfl, hG2, hb2⟩ := hrel
            clear f0 f1 f2 f3 hG' hb'
            obtain ⟨f0, f1, f2, f3⟩ := (hv.on hb2).four Hr.out
            by_cases hx : x < x1
            · have hon : onC x y = true := (onC_iff x y).2 (by omega)
              have hc := hG2.ix_ hon
              have hz := hG2.frozen (ix x y).toNat
              have hi : 0 ≤ ix x y ∧ ix x y < 6400 := by unfold ix; omega
              have Hon := Lib.hid hon
              clear hon
              go_wp2_with (go_at_call 91; refine (l03At_any x y (by omega) _).mono ?_; rintro e w1 ⟨rfl, rfl⟩)
              refine ⟨⟨x + 1, by omega, by omega, rfl, ?_, hb2.setCell (Nat.le_refl _) _⟩, by simp [intOf]; omega⟩
              exact (hG2.store (by omega) true).cong (orR_step (by omega) hx0 Hon.out)
            · go_wp2
              have hxe : x = x1 := by omega
              refine ⟨⟨y + 1, by omega, by omega, rfl, ?_, hb2⟩, by simp [intOf]; omega⟩
              rw [hxe] at hG2
              exact hG2.cong (orR_row _ _ _ _ _ hy0)
        · go_wp2
          have hye : y = y1 := by omega
          refine ⟨⟨k + 1, by omega, by go_num, ?_, hb'⟩, by simp [intOf]; omega⟩
          rw [hye] at hG'
          exact hG'.cong (cellsG_take_succ Hr.out).symm
    · go_wp2
      go_ret
      have : k = rs.length := by omega
      subst this
      rw [List.take_length] at hG
      exact ⟨_, rfl, ⟨_, _, rfl, Nat.le_refl _, hG⟩, hb⟩

end Go.Proofs.Ythifinolgbjekaa
