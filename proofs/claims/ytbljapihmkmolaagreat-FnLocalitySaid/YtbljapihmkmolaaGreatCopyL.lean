/- Contracts: the laws' copyRects and copyLayers. Condition: lists of bounded lengths. -/
import Derived.Test.YtbljapihmkmolaaGreatComps
import Derived.Test.YtbljapihmkmolaaGreatDrawK
namespace Go.Proofs.YtbljapihmkmolaaGreat
open Go.RowKit

set_option maxHeartbeats 400000 in
/-- copyRects. -/
theorem copyR_any (v : Value) (rs : List Rc) (w : World) (hv : RL w 0 v rs) (hl : rs.length ≤ 1000000) : Calls Tryz.prog 47 #[v] w fun e w' => ∃ u, e = .returned u ∧ RL w' w.heap.size u rs ∧ Below w.heap.size w w' := by
  have r1 : RL (w.alloc (.cells #[] 80)) w.heap.size (.slice (some ⟨w.heap.size, 0, none⟩) 0 0) [] := row_empty w w.heap.size _ rfl (Nat.le_refl _)
  have hv2 := RL.alloc hv (.cells #[] 80)
  have hb1 := (Below.refl w.heap.size w).alloc (Nat.le_refl _) (.cells #[] 80)
  have hs1 := hb1.size
  have hlen : ([] : List Rc).length + rs.length ≤ 1000000 := by rw [List.length_nil]; omega
  obtain ⟨A, c, rfl, hc, hm, -⟩ := hv.form
  clear hv
  go_enter Tryz.func47, Tryz.ntmps47
  go_wp2_with (at_builtin; refine wpList_append_RR rfl (.tmp 3) (.tmp 4) rfl w.heap.size 0 _ _ _ _ rfl r1 rfl hv2 hlen hs1 ?_; intro v' w3 hR3 hb3)
  go_ret
  exact ⟨_, rfl, by rw [List.nil_append] at hR3; exact hR3, hb1.trans hb3⟩

set_option maxHeartbeats 800000 in
set_option maxRecDepth 100000 in
/-- copyLayers. -/
theorem copyLay_any (v : Value) (rss : List (List Rc)) (w : World) (hv : RLL w 0 v rss) (hn : rss.length ≤ 1000000) (hl : ∀ rs ∈ rss, rs.length ≤ 1000000) : Calls Tryz.prog 32 #[v] w fun e w' => ∃ u, e = .returned u ∧ RLL w' w.heap.size u rss ∧ Below w.heap.size w w' := by
  obtain ⟨A, c, rfl, hc, hm⟩ := hv.form
  have hL := Lib.hid hl
  have r1 := RLL.lit0 w (B := w.heap.size) (Nat.le_refl _)
  have Hv := Lib.hid hv
  have hb1 := (Below.refl w.heap.size w).alloc (Nat.le_refl _) (.cells #[] 26)
  clear hv hl
  go_enter Tryz.func32, Tryz.ntmps32
  go_wp2
  go_loopw [3, 4] (fun ov iv wr => ∃ k : Nat, k ≤ rss.length ∧ iv = .int .i64 k ∧ RLL wr w.heap.size ov (rss.take k) ∧ Below w.heap.size w wr) (fun _ iv _ => rss.length - (intOf iv).toNat)
  case atStart => exact ⟨0, Nat.zero_le _, rfl, r1, hb1⟩
  case round =>
    obtain ⟨k, hk, rfl, hO, hb⟩ := hrel
    have hV := Hv.out.on hb
    clear r1 hb1
    by_cases hlt : k < rss.length
    · obtain ⟨g, u, rs, rfl, hr, hg, f0, hR⟩ := hV.elem hlt
      have hrl := hL.out rs (List.mem_of_getElem? hr)
      have hst : rss.take k ++ [rs] = rss.take (k + 1) := by rw [List.take_add_one, hr]; rfl
      have Hst := Lib.hid hst
      obtain ⟨Au, cu, rfl, -, -, -⟩ := hR.form
      have hk9 : k < 9223372036854775807 := by omega
      have hlen : (rss.take k).length ≤ 1000000 := by rw [List.length_take]; omega
      have LEN := Lib.hid hlen
      clear hst hr hlen
      go_wp2_with fail
      refine (copyR_any _ rs _ hR hrl).mono ?_
      rintro e w2 ⟨z, rfl, hZ, hb2⟩
      have hO2 := hO.on hb2
      have hZ2 := hZ.less hb.size
      have hb3 := hb.trans (hb2.mono hb.size)
      have hsz := hb3.size
      obtain ⟨Az, cz, rfl, -, -, -⟩ := hZ2.form
      clear hO hV hZ hb hb2 hR f0
      go_wp2_with (at_builtin; refine wpList_append_RLL rfl (.tmp 12) (.tmp 18) rfl w.heap.size _ (rss.take k) rfl hO2 _ rs hZ2 rfl LEN.out hsz ?_; intro v' w' k1 k2 k3)
      rw [Hst.out] at k1
      exact ⟨⟨k + 1, by omega, by go_num, k1, hb3.trans k3⟩, by simp [intOf]; omega⟩
    · have hke : k = rss.length := by omega
      subst hke
      rw [List.take_length] at hO
      go_wp2
      go_ret
      exact ⟨_, rfl, hO, hb⟩

end Go.Proofs.YtbljapihmkmolaaGreat
