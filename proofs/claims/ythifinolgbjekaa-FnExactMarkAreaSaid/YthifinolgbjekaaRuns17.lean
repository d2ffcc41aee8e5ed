/- Contracts: the reference's l17Runs and l17All. No conditions. -/
import Derived.Test.YthifinolgbjekaaRun17
import Derived.Test.YthifinolgbjekaaRunsMath
namespace Go.Proofs.Ythifinolgbjekaa
open Go.RowKit

theorem startG_no {G : Gr} {vert : Bool} {a t : Int} (h : lnG G vert a t = false) : startG G vert a t = false := by unfold startG; rw [h]; rfl
theorem startG_on {G : Gr} {vert : Bool} {a t : Int} (h : lnG G vert a (t - 1) = true) : startG G vert a t = false := by unfold startG; rw [h]; cases lnG G vert a t <;> rfl
theorem startG_yes {G : Gr} {vert : Bool} {a t : Int} (h : lnG G vert a t = true) (h0 : lnG G vert a (t - 1) = false) : startG G vert a t = true := by unfold startG; rw [h, h0]; rfl
theorem line_step {G : Gr} {vert : Bool} {a k : Nat} {out rest full : List Rc} (h : out ++ (restL G vert ((a : Int) - 40) k ++ rest) = full) (hk : k < 80) (hs : startG G vert ((a : Int) - 40) ((k : Int) - 40) = false) : out ++ (restL G vert ((a : Int) - 40) (k + 1) ++ rest) = full := by
  rw [restL_off G vert _ hk hs] at h; exact h
theorem line_run {G : Gr} {vert : Bool} {a k : Nat} {out rest full : List Rc} {r : Rc} (h : out ++ (restL G vert ((a : Int) - 40) k ++ rest) = full) (hk : k < 80) (hs : startG G vert ((a : Int) - 40) ((k : Int) - 40) = true) (hr : r = lineR vert ((a : Int) - 40) ((k : Int) - 40) (stopG G vert ((a : Int) - 40) ((k : Int) - 40))) : (out ++ [r]) ++ (restL G vert ((a : Int) - 40) (k + 1) ++ rest) = full := by
  rw [restL_on G vert _ hk hs] at h
  rw [← h, hr]
  simp
theorem line_end {G : Gr} {vert : Bool} {a k : Nat} {out rest full : List Rc} (h : out ++ (restL G vert ((a : Int) - 40) k ++ rest) = full) (hk : 80 ≤ k) : out ++ rest = full := by
  rw [restL_end G vert _ hk, List.nil_append] at h; exact h
theorem lines_step {G : Gr} {vert : Bool} {a : Nat} {out full : List Rc} (h : out ++ restA G vert a = full) (ha : a < 80) : out ++ (restL G vert ((a : Int) - 40) 0 ++ restA G vert (a + 1)) = full := by
  rw [restA_step G vert ha] at h; exact h
theorem lines_end {G : Gr} {vert : Bool} {a : Nat} {out full : List Rc} (h : out ++ restA G vert a = full) (ha : 80 ≤ a) : out = full := by
  rw [restA_end G vert ha, List.append_nil] at h; exact h

set_option maxHeartbeats 800000 in
set_option maxRecDepth 100000 in
theorem l17Runs_h (v : Value) (G : Gr) (w : World) (hG : GS w 0 v G) : Calls Try.prog 101 #[v, .bool false] w fun e w' => ∃ u, e = .returned u ∧ RL w' w.heap.size u (runsG G false) ∧ Below w.heap.size w w' := by
  have Hlen := Lib.hid (runsG_length G false)
  have r0 : RL (w.alloc (.cells #[] 37)) w.heap.size (.slice (some ⟨w.heap.size, 0, none⟩) 0 0) [] := World.ownsRow_lit w #[] 0 (Nat.le_refl _) (by simp [maxLen]) rfl
  have b0 : Below w.heap.size w (w.alloc (.cells #[] 37)) := (Below.refl _ _).alloc (Nat.le_refl _) _
  go_enter Try.func101, Try.ntmps101
  go_wp2
  go_loopw [5, 6] (fun out yv wr => ∃ (a : Nat) (qs : List Rc), a ≤ 80 ∧ yv = .int .i64 ((a : Int) - 40) ∧ RL wr w.heap.size out qs ∧ Hid (qs ++ restA G false a = runsG G false) ∧ Below w.heap.size w wr) (fun _ yv _ => (40 - intOf yv).toNat)
  case atStart => exact ⟨0, [], by omega, rfl, r0, Lib.hid (runsG_start G false), b0⟩
  case round =>
    obtain ⟨a, qs, ha, rfl, hR, hqs, hb⟩ := hrel
    clear r0 b0
    by_cases hlt : a < 80
    · have Hqs := Lib.hid (lines_step hqs.out hlt)
      clear hqs
      go_wp2
      have hd : decide ((a : Int) - 40 < 40) = true := decide_eq_true (by omega)
      rw [hd]
      clear hd
      go_loopw [5, 7] (fun out xv wi => ∃ (k : Nat) (ps : List Rc), k ≤ 80 ∧ xv = .int .i64 ((k : Int) - 40) ∧ RL wi w.heap.size out ps ∧ Hid (ps ++ (restL G false ((a : Int) - 40) k ++ restA G false (a + 1)) = runsG G false) ∧ Below w.heap.size w wi) (fun _ xv _ => (40 - intOf xv).toNat)
      case atStart => exact ⟨0, qs, by omega, rfl, hR, Hqs, hb⟩
      case round =>
        obtain ⟨k, ps, hk, rfl, hR1, hps, hb1⟩ := hrel
        clear hR hb Hqs
        have hG1 := hG.on hb1
        by_cases hk80 : k < 80
        · by_cases hc : hasG G ((k : Int) - 40) ((a : Int) - 40) = true
          · by_cases hp : hasG G ((k : Int) - 40 - 1) ((a : Int) - 40) = true
            · have Hs := Lib.hid (line_step hps.out hk80 (startG_on hp))
              go_wp2_with (go_at_call 105; refine (l17Cell_any v G _ _ _ hG1).mono ?_; rintro e w1 ⟨rfl, rfl⟩)
              exact ⟨⟨k + 1, ps, by omega, by go_num, hR1, Hs, hb1⟩, by simp [intOf]; omega⟩
            · have hp' : hasG G ((k : Int) - 40 - 1) ((a : Int) - 40) = false := by simpa using hp
              clear hp
              have hs : startG G false ((a : Int) - 40) ((k : Int) - 40) = true := startG_yes hc hp'
              have Hs := Lib.hid hs
              have Hr := Lib.hid (runR_h G ((a : Int) - 40) ((k : Int) - 40) hs)
              clear hs
              have hl3 : ps.length ≤ 1000000 := Nat.le_trans (part_len hps.out Hlen.out) (by omega)
              have hB := hb1.size
              go_wp2_with (first | (go_at_call 105; refine (l17Cell_any v G _ _ _ hG1).mono ?_; rintro e w1 ⟨rfl, rfl⟩) | (go_at_call 116; refine (l17Run_h v G ((k : Int) - 40) ((a : Int) - 40) _ hG1 (by omega) (by omega)).mono ?_; rintro e w2 ⟨rfl, hb2⟩) | (at_builtin; refine wpList_append_R rfl (.tmp 43) (.tmp 49) rfl w.heap.size _ ps rfl (hR1.on hb2) _ _ _ _ rfl hl3 (Nat.le_trans hB hb2.size) ?_))
              intro v1 w3 ho3 hg3 hb3
              go_wp2
              exact ⟨⟨k + 1, _, by omega, by go_num, ho3, Lib.hid (line_run hps.out hk80 Hs.out Hr.out), (hb1.trans (hb2.mono hB)).trans hb3⟩, by simp [intOf]; omega⟩
          · have hc' : hasG G ((k : Int) - 40) ((a : Int) - 40) = false := by simpa using hc
            clear hc
            have Hs := Lib.hid (line_step hps.out hk80 (startG_no (vert := false) hc'))
            go_wp2_with (go_at_call 105; refine (l17Cell_any v G _ _ _ hG1).mono ?_; rintro e w1 ⟨rfl, rfl⟩)
            exact ⟨⟨k + 1, ps, by omega, by go_num, hR1, Hs, hb1⟩, by simp [intOf]; omega⟩
        · have He := Lib.hid (line_end hps.out (by omega))
          go_wp2
          exact ⟨⟨a + 1, ps, by omega, by go_num, hR1, He, hb1⟩, by simp [intOf]; omega⟩
    · have e0 := Lib.hid (lines_end hqs.out (by omega))
      go_wp2
      go_ret
      rw [← e0.out]
      exact ⟨_, rfl, hR, hb⟩

set_option maxHeartbeats 800000 in
set_option maxRecDepth 100000 in
theorem l17Runs_v (v : Value) (G : Gr) (w : World) (hG : GS w 0 v G) : Calls Try.prog 101 #[v, .bool true] w fun e w' => ∃ u, e = .returned u ∧ RL w' w.heap.size u (runsG G true) ∧ Below w.heap.size w w' := by
  have Hlen := Lib.hid (runsG_length G true)
  have r0 : RL (w.alloc (.cells #[] 37)) w.heap.size (.slice (some ⟨w.heap.size, 0, none⟩) 0 0) [] := World.ownsRow_lit w #[] 0 (Nat.le_refl _) (by simp [maxLen]) rfl
  have b0 : Below w.heap.size w (w.alloc (.cells #[] 37)) := (Below.refl _ _).alloc (Nat.le_refl _) _
  go_enter Try.func101, Try.ntmps101
  go_wp2
  go_loopw [5, 6] (fun out yv wr => ∃ (a : Nat) (qs : List Rc), a ≤ 80 ∧ yv = .int .i64 ((a : Int) - 40) ∧ RL wr w.heap.size out qs ∧ Hid (qs ++ restA G true a = runsG G true) ∧ Below w.heap.size w wr) (fun _ yv _ => (40 - intOf yv).toNat)
  case atStart => exact ⟨0, [], by omega, rfl, r0, Lib.hid (runsG_start G true), b0⟩
  case round =>
    obtain ⟨a, qs, ha, rfl, hR, hqs, hb⟩ := hrel
    clear r0 b0
    by_cases hlt : a < 80
    · have Hqs := Lib.hid (lines_step hqs.out hlt)
      clear hqs
      go_wp2
      have hd : decide ((a : Int) - 40 < 40) = true := decide_eq_true (by omega)
      rw [hd]
      clear hd
      go_loopw [5, 7] (fun out xv wi => ∃ (k : Nat) (ps : List Rc), k ≤ 80 ∧ xv = .int .i64 ((k : Int) - 40) ∧ RL wi w.heap.size out ps ∧ Hid (ps ++ (restL G true ((a : Int) - 40) k ++ restA G true (a + 1)) = runsG G true) ∧ Below w.heap.size w wi) (fun _ xv _ => (40 - intOf xv).toNat)
      case atStart => exact ⟨0, qs, by omega, rfl, hR, Hqs, hb⟩
      case round =>
        obtain ⟨k, ps, hk, rfl, hR1, hps, hb1⟩ := hrel
        clear hR hb Hqs
        have hG1 := hG.on hb1
        by_cases hk80 : k < 80
        · by_cases hc : hasG G ((a : Int) - 40) ((k : Int) - 40) = true
          · by_cases hp : hasG G ((a : Int) - 40) ((k : Int) - 40 - 1) = true
            · have Hs := Lib.hid (line_step hps.out hk80 (startG_on hp))
              go_wp2_with (go_at_call 105; refine (l17Cell_any v G _ _ _ hG1).mono ?_; rintro e w1 ⟨rfl, rfl⟩)
              exact ⟨⟨k + 1, ps, by omega, by go_num, hR1, Hs, hb1⟩, by simp [intOf]; omega⟩
            · have hp' : hasG G ((a : Int) - 40) ((k : Int) - 40 - 1) = false := by simpa using hp
              clear hp
              have hs : startG G true ((a : Int) - 40) ((k : Int) - 40) = true := startG_yes hc hp'
              have Hs := Lib.hid hs
              have Hr := Lib.hid (runR_v G ((a : Int) - 40) ((k : Int) - 40) hs)
              clear hs
              have hl3 : ps.length ≤ 1000000 := Nat.le_trans (part_len hps.out Hlen.out) (by omega)
              have hB := hb1.size
              go_wp2_with (first | (go_at_call 105; refine (l17Cell_any v G _ _ _ hG1).mono ?_; rintro e w1 ⟨rfl, rfl⟩) | (go_at_call 116; refine (l17Run_v v G ((a : Int) - 40) ((k : Int) - 40) _ hG1 (by omega) (by omega)).mono ?_; rintro e w2 ⟨rfl, hb2⟩) | (at_builtin; refine wpList_append_R rfl (.tmp 43) (.tmp 49) rfl w.heap.size _ ps rfl (hR1.on hb2) _ _ _ _ rfl hl3 (Nat.le_trans hB hb2.size) ?_))
              intro v1 w3 ho3 hg3 hb3
              go_wp2
              exact ⟨⟨k + 1, _, by omega, by go_num, ho3, Lib.hid (line_run hps.out hk80 Hs.out Hr.out), (hb1.trans (hb2.mono hB)).trans hb3⟩, by simp [intOf]; omega⟩
          · have hc' : hasG G ((a : Int) - 40) ((k : Int) - 40) = false := by simpa using hc
            clear hc
            have Hs := Lib.hid (line_step hps.out hk80 (startG_no (vert := true) hc'))
            go_wp2_with (go_at_call 105; refine (l17Cell_any v G _ _ _ hG1).mono ?_; rintro e w1 ⟨rfl, rfl⟩)
            exact ⟨⟨k + 1, ps, by omega, by go_num, hR1, Hs, hb1⟩, by simp [intOf]; omega⟩
        · have He := Lib.hid (line_end hps.out (by omega))
          go_wp2
          exact ⟨⟨a + 1, ps, by omega, by go_num, hR1, He, hb1⟩, by simp [intOf]; omega⟩
    · have e0 := Lib.hid (lines_end hqs.out (by omega))
      go_wp2
      go_ret
      rw [← e0.out]
      exact ⟨_, rfl, hR, hb⟩

/-- l17Runs. -/
theorem l17Runs_any (v : Value) (G : Gr) (vert : Bool) (w : World) (hG : GS w 0 v G) : Calls Try.prog 101 #[v, .bool vert] w fun e w' => ∃ u, e = .returned u ∧ RL w' w.heap.size u (runsG G vert) ∧ Below w.heap.size w w' := by
  cases vert
  · exact l17Runs_h v G w hG
  · exact l17Runs_v v G w hG

end Go.Proofs.Ythifinolgbjekaa
