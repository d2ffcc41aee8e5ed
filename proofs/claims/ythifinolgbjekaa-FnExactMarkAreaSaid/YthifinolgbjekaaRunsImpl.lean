/- Contracts: the program's runs, with the literals of runsOf. No conditions. -/
import Derived.Test.YthifinolgbjekaaRunsOf1
namespace Go.Proofs.Ythifinolgbjekaa
open Go.RowKit

theorem kind_eq {G : Gr} {vert : Bool} {a s t : Int} (h : lnG G vert a s = lnG G vert a t) : kindG G vert a s = kindG G vert a t := by unfold kindG; rw [h]
theorem kind_ne {G : Gr} {vert : Bool} {a s t : Int} (h : ¬ lnG G vert a s = lnG G vert a t) : ¬ kindG G vert a s = kindG G vert a t := by
  unfold kindG
  revert h
  cases lnG G vert a s <;> cases lnG G vert a t <;> simp
/-- No run is cut at i. -/
def FreshG (G : Gr) (vert : Bool) (a : Int) (i : Nat) : Prop := lnG G vert a ((i : Int) - 40) = true → lnG G vert a ((i : Int) - 41) = false
theorem fresh_zero (G : Gr) (vert : Bool) (a : Int) : FreshG G vert a 0 := fun _ => by
  rw [Bool.eq_false_iff]
  intro hc
  have := lnG_in hc
  omega
/-- All from i on below e are as i is. -/
def AlikeG (G : Gr) (vert : Bool) (a : Int) (i e : Nat) : Prop := ∀ j : Nat, i ≤ j → j < e → lnG G vert a ((j : Int) - 40) = lnG G vert a ((i : Int) - 40)
theorem alike_one (G : Gr) (vert : Bool) (a : Int) (i : Nat) : AlikeG G vert a i (i + 1) := fun j h1 h2 => by
  have : j = i := by omega
  rw [this]
theorem alike_step {G : Gr} {vert : Bool} {a : Int} {i e : Nat} (h : AlikeG G vert a i e) (he : lnG G vert a ((e : Int) - 40) = lnG G vert a ((i : Int) - 40)) : AlikeG G vert a i (e + 1) := fun j h1 h2 => by
  by_cases hj : j < e
  · exact h j h1 hj
  · have : j = e := by omega
    rw [this]; exact he
/-- The run ends at e. -/
theorem fresh_end {G : Gr} {vert : Bool} {a : Int} {i e : Nat} (h : AlikeG G vert a i e) (hi : i < e) (hne : ¬ (e < 80 ∧ lnG G vert a ((e : Int) - 40) = lnG G vert a ((i : Int) - 40))) : FreshG G vert a e := by
  intro ht
  have he := lnG_in ht
  have h1 := h (e - 1) (by omega) (by omega)
  have e1 : ((e - 1 : Nat) : Int) - 40 = (e : Int) - 41 := by omega
  rw [e1] at h1
  rw [h1]
  by_cases hc : lnG G vert a ((i : Int) - 40) = true
  · exact absurd ⟨by omega, ht.trans hc.symm⟩ hne
  · simpa using hc
theorem run_end {G : Gr} {vert : Bool} {a : Int} {i e : Nat} (hon : lnG G vert a ((i : Int) - 40) = true) (hne : ¬ (e < 80 ∧ lnG G vert a ((e : Int) - 40) = lnG G vert a ((i : Int) - 40))) : lnG G vert a ((e : Int) - 40) = false := by
  rw [Bool.eq_false_iff]
  intro ht
  have he := lnG_in ht
  exact hne ⟨by omega, ht.trans hon.symm⟩
theorem rest_set {G : Gr} {vert : Bool} {a : Int} {i e : Nat} {ps rest full : List Rc} (h : ps ++ (restL G vert a i ++ rest) = full) (hf : FreshG G vert a i) (hall : AlikeG G vert a i e) (hi : i < e) (he : e ≤ 80)
    (hon : lnG G vert a ((i : Int) - 40) = true) (hne : ¬ (e < 80 ∧ lnG G vert a ((e : Int) - 40) = lnG G vert a ((i : Int) - 40))) : (ps ++ [lineR vert a ((i : Int) - 40) ((e : Int) - 40)]) ++ (restL G vert a e ++ rest) = full := by
  rw [restL_set G vert a hi he (fun j h1 h2 => (hall j h1 h2).trans hon) (hf hon) (run_end hon hne)] at h
  rw [← h]
  simp
theorem rest_free {G : Gr} {vert : Bool} {a : Int} {i e : Nat} {ps rest full : List Rc} (h : ps ++ (restL G vert a i ++ rest) = full) (hall : AlikeG G vert a i e) (hi : i < e) (he : e ≤ 80)
    (hoff : lnG G vert a ((i : Int) - 40) = false) : ps ++ (restL G vert a e ++ rest) = full := by
  rw [restL_free G vert a hi he (fun j h1 h2 => (hall j h1 h2).trans hoff)] at h
  exact h
theorem rest_end {G : Gr} {vert : Bool} {a : Int} {i : Nat} {ps rest full : List Rc} (h : ps ++ (restL G vert a i ++ rest) = full) (hi : 80 ≤ i) : ps ++ rest = full := by
  rw [restL_end G vert a hi, List.nil_append] at h; exact h

set_option maxHeartbeats 800000 in
set_option maxRecDepth 100000 in
/-- runs: the runs of one line behind those that are there. -/
theorem runs_any (B Ob Lb Vb Cb g : Nat) (line : Int) (vert : Bool) (G : Gr) (qs rest full : List Rc) (w : World) (hC : CapG w Lb Vb Cb g line vert G) (v0 : Value) (hO : Bk w Ob 24 #[v0]) (hR : RL w B v0 qs) (hB : B ≤ w.heap.size) (hOb : B ≤ Ob) (hline : -1000 ≤ line ∧ line ≤ 1000)
    (hfull : qs ++ (restL G vert line 0 ++ rest) = full) (hl : full.length ≤ 1000000) :
    Calls Try.prog 117 #[.func (.func 118) #[] #[.pointer (some ⟨Lb, 0, none⟩), .pointer (some ⟨Vb, 0, none⟩), .pointer (some ⟨Cb, 0, none⟩)],
        .func (.func 119) #[] #[.pointer (some ⟨Ob, 0, none⟩), .pointer (some ⟨Lb, 0, none⟩), .pointer (some ⟨Vb, 0, none⟩)]] w fun e w' =>
      e = .returned (.tuple #[]) ∧ CapG w' Lb Vb Cb g line vert G ∧ Below B w w' ∧ ∃ v' ps, Bk w' Ob 24 #[v'] ∧ RL w' B v' ps ∧ ps ++ rest = full := by
  have Hfull := Lib.hid hfull
  have Hl := Lib.hid hl
  clear hfull hl
  go_enter Try.func117, Try.ntmps117
  go_wp2
  go_loopw [4] (fun iv wr => ∃ (i : Nat) (ps : List Rc) (v : Value), i ≤ 80 ∧ iv = .int .i64 i ∧ CapG wr Lb Vb Cb g line vert G ∧ Bk wr Ob 24 #[v] ∧ RL wr B v ps ∧ Hid (ps ++ (restL G vert line i ++ rest) = full) ∧ Hid (FreshG G vert line i) ∧ Below B w wr) (fun iv _ => (80 - intOf iv).toNat)
  case atStart => exact ⟨0, qs, v0, by omega, rfl, hC, hO, hR, Hfull, Lib.hid (fresh_zero G vert line), Below.refl _ _⟩
  case round =>
    obtain ⟨i, ps, v, hi, rfl, hC1, hO1, hR1, hps, hfr, hb1⟩ := hrel
    clear hC hO hR Hfull
    by_cases hlt : i < 80
    · go_wp2
      have hd : decide ((i : Int) < 80) = true := decide_eq_true (by omega)
      rw [hd]
      clear hd
      go_loopw [5] (fun ev wi => ∃ e : Nat, i + 1 ≤ e ∧ e ≤ 80 ∧ ev = .int .i64 e ∧ Hid (AlikeG G vert line i e) ∧ Below wr.heap.size wr wi) (fun ev _ => (80 - intOf ev).toNat)
      case atStart => exact ⟨i + 1, Nat.le_refl _, by omega, by go_num, Lib.hid (alike_one G vert line i), Below.refl _ _⟩
      case round =>
        obtain ⟨e, he0, he1, rfl, hal, hbi⟩ := hrel
        by_cases hc : e < 80 ∧ lnG G vert line ((e : Int) - 40) = lnG G vert line ((i : Int) - 40)
        · obtain ⟨he, hq⟩ := hc
          have hq' := kind_eq hq
          have Ha := Lib.hid (alike_step hal.out hq)
          clear hq hal
          have hCi := hC1.on hbi
          go_wp2_with (go_at_call 118; refine (at_any _ Lb Vb Cb g line vert G _ hCi (by omega)).mono ?_; rintro e' w3 ⟨rfl, hb3⟩; have hbi := hbi.trans (hb3.mono hbi.size); have hCi := hC1.on hbi)
          exact ⟨⟨e + 1, by omega, by omega, by go_num, Ha, hbi⟩, by simp [intOf]; omega⟩
        · have Ha := hal
          have Hfe := Lib.hid (fresh_end hal.out (by omega) hc)
          have Hc := Lib.hid hc
          have hCi := hC1.on hbi
          by_cases he : e < 80
          case' pos =>
            have hq' : ¬ kindG G vert line ((e : Int) - 40) = kindG G vert line ((i : Int) - 40) := kind_ne (fun h => hc ⟨he, h⟩)
            clear hc
          case' neg => clear hc
          all_goals
            by_cases hk : lnG G vert line ((i : Int) - 40) = true
            · have hk1 := kind_yes hk
              have Hr := Lib.hid (rest_set hps.out hfr.out hal.out (by omega) (by omega) hk Hc.out)
              have hl3 : ps.length ≤ 1000000 := Nat.le_trans (part_len hps.out (Nat.le_refl _)) Hl.out
              go_wp2_with (first | (go_at_call 118; refine (at_any _ Lb Vb Cb g line vert G _ hCi (by omega)).mono ?_; rintro e' w3 ⟨rfl, hb3⟩; have hbi := hbi.trans (hb3.mono hbi.size); have hCi := hC1.on hbi)
                                 | (go_at_call 119; refine (yield_any _ _ _ B Ob Lb Vb Cb g line vert G ps _ hCi v (hO1.on hbi) (hR1.on hbi) (Nat.le_trans hb1.size (Nat.le_trans hbi.size (Nat.le_refl _)) |> Nat.le_trans hB) hOb hl3 hline).mono ?_; rintro e' w5 ⟨rfl, hC5, hb5, v5, hO5, hR5⟩))
              exact ⟨⟨e, _, v5, by omega, rfl, hC5, hO5, hR5, Hr, Hfe, (hb1.trans (hbi.mono (Nat.le_trans hB hb1.size))).trans hb5⟩, by simp [intOf]; omega⟩
            · have hk' : lnG G vert line ((i : Int) - 40) = false := by simpa using hk
              clear hk
              have hk0 := kind_no hk'
              have Hr := Lib.hid (rest_free hps.out hal.out (by omega) (by omega) hk')
              go_wp2_with (go_at_call 118; refine (at_any _ Lb Vb Cb g line vert G _ hCi (by omega)).mono ?_; rintro e' w3 ⟨rfl, hb3⟩; have hbi := hbi.trans (hb3.mono hbi.size); have hCi := hC1.on hbi)
              exact ⟨⟨e, ps, v, by omega, rfl, hCi, hO1.on hbi, hR1.on hbi, Hr, Hfe, hb1.trans (hbi.mono (Nat.le_trans hB hb1.size))⟩, by simp [intOf]; omega⟩
    · go_wp2
      go_end0
      exact ⟨rfl, hC1, hb1, v, ps, hO1, hR1, rest_end hps.out (by omega)⟩

end Go.Proofs.Ythifinolgbjekaa
