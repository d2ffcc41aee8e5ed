/- Contract: the reference's IsReport. Condition: a list of violations in memory. -/
import Derived.Test.YtbljapihmkmolaaRepS
import Derived.StillTailTactics
namespace Go.Proofs.Ytbljapihmkmolaa
open Go.RowKit

noncomputable def okV (q : Int × List Rc) : Bool := vioV q.1 q.2
theorem okV_ne {q : Int × List Rc} (h : okV q = true) : q.2 ≠ [] := conn_ne (vio_conn h)
theorem okV_ok {q : Int × List Rc} (h : okV q = true) : okAll q.2 = true := okAll_reg (conn_reg (vio_conn h))

set_option maxHeartbeats 1600000 in
set_option maxRecDepth 100000 in
theorem report_spec (v : Value) (us : List Value) (vs : List (Int × List Rc)) (w : World) (hv : XW w 0 v us vs) :
    Calls Try.prog 18 #[v] w fun e w' => e = .returned (.bool (repB okV vs)) ∧ Below w.heap.size w w' := by
  obtain ⟨A, c, rfl, hc, hm⟩ := hv.form
  unfold maxLen at hm
  by_cases hlen : 256 < vs.length
  · rw [repB_long hlen]
    have hd : (256 : Int) < (vs.length : Int) := by omega
    have hd2 : vs.length ≤ 9223372036854775807 := by omega
    clear hv
    go_enter Try.func18, Try.ntmps18
    go_wp2
    go_ret
    exact ⟨rfl, Below.refl _ _⟩
  · have hd : ¬ (256 : Int) < (vs.length : Int) := by omega
    have hd2 : vs.length ≤ 256 := by omega
    have Hg0 := Lib.hid (good_zero okV vs)
    have hb0 := Below.refl w.heap.size w
    go_enter Try.func18, Try.ntmps18
    go_wp2
    go_loopw [3] (fun iv wr => ∃ i : Nat, i ≤ vs.length ∧ iv = .int .i64 i ∧ Hid (GoodTo okV vs i) ∧ Below w.heap.size w wr) (fun iv _ => vs.length - (intOf iv).toNat)
    case atStart => exact ⟨0, Nat.zero_le _, rfl, Hg0, hb0⟩
    case round =>
      obtain ⟨i, hi, rfl, HG, hb⟩ := hrel
      clear hb0 Hg0
      by_cases hlt : i < vs.length
      · obtain ⟨q, hq⟩ : ∃ q, vs[i]? = some q := ⟨_, List.getElem?_eq_getElem hlt⟩
        obtain ⟨g, u, rfl, hu, -, hg, f0, f1, hR⟩ := (hv.on hb).elem hq
        obtain ⟨Au, cu, rfl, -, -, -⟩ := hR.form
        have Hq := Lib.hid hq
        have HV := Lib.hid hv
        have Hu := Lib.hid hu
        have hi9 : i < 9223372036854775807 := by omega
        clear hq hv hu
        cases hok : okV q with
        | false =>
          have Hbad := Lib.hid (repB_bad Hq.out hok)
          unfold okV at hok
          have Hok := Lib.hid hok
          clear hok
          go_wp2_with fail
          refine (vio_spec q.1 _ q.2 _ hR).mono ?_
          rintro e w2 ⟨rfl, hb2⟩
          rw [Hok.out]
          go_wp2
          go_ret
          exact ⟨ret_bool Hbad.out.symm, hb.trans (hb2.mono hb.size)⟩
        | true =>
          have Hok := Lib.hid hok
          have Hvq := Lib.hid (show vioV q.1 q.2 = true from hok)
          clear hok
          go_wp2_with fail
          refine (vio_spec q.1 _ q.2 _ hR).mono ?_
          rintro e w2 ⟨rfl, hb2⟩
          rw [Hvq.out]
          have b2 := hb.trans (hb2.mono hb.size)
          have Hk0 := Lib.hid (show ∀ (j : Nat) (d : Int × List Rc), j < 0 → vs[j]? = some d → befV d q = true from fun j d hj => absurd hj (by omega))
          clear hR f0 f1 hb hb2
          go_wp2
          go_loopw [4] (fun kv wr => ∃ k : Nat, k ≤ i ∧ kv = .int .i64 k ∧ Hid (∀ (j : Nat) (d : Int × List Rc), j < k → vs[j]? = some d → befV d q = true) ∧ Below w.heap.size w wr) (fun kv _ => i - (intOf kv).toNat)
          case atStart => exact ⟨0, Nat.zero_le _, rfl, Hk0, b2⟩
          case round =>
            obtain ⟨k, hk, rfl, HK, hb⟩ := hrel
            clear b2 Hk0
            by_cases hltk : k < i
            · obtain ⟨p, hp⟩ : ∃ p, vs[k]? = some p := ⟨_, List.getElem?_eq_getElem (by omega)⟩
              obtain ⟨g1, u1, hg1, hu1, -, -, e0, e1, hR1⟩ := (HV.out.on hb).elem hp
              obtain ⟨g2, u2, hg2, hu2, -, -, f0, f1, hR2⟩ := (HV.out.on hb).elem Hq.out
              cases hg1
              cases hg2
              obtain ⟨A1, c1, rfl, -, -, -⟩ := hR1.form
              obtain ⟨A2, c2, rfl, -, -, -⟩ := hR2.form
              have hpo := ((HG.out k p hltk hp).1)
              have r1 : RL wr.drew 0 (.slice A1 p.2.length c1) p.2 := hR1
              have r2 : RL wr.drew 0 (.slice A2 q.2.length c2) q.2 := hR2
              have tc := hb.drew
              have Hp := Lib.hid hp
              have Hn := Lib.hid (okV_ne hpo)
              have Hn2 := Lib.hid (okV_ne Hok.out)
              have Ho := Lib.hid (okV_ok hpo)
              have Ho2 := Lib.hid (okV_ok Hok.out)
              have hk9 : k < 9223372036854775807 := by omega
              have hkv : k < vs.length := by omega
              clear hp hu1 hu2 hpo hR1 hR2
              cases hbf : befV p q with
              | true =>
                have HK2 := Lib.hid (show ∀ (j : Nat) (d : Int × List Rc), j < k + 1 → vs[j]? = some d → befV d q = true from fun j d hj hd => by
                  by_cases e : j = k
                  · subst e
                    rw [Hp.out] at hd
                    cases hd
                    exact hbf
                  · exact HK.out j d (by omega) hd)
                have Hbf := Lib.hid (show befV (p.1, p.2) (q.1, q.2) = true from hbf)
                clear hbf HK
                go_wp2
                go_still_tail 8, (by kernel_rfl)
                change wpList _ _ _ _ _ wr.drew
                clear e0 e1 f0 f1 hb
                generalize wr.drew = w3 at *
                go_wp2_with fail
                refine (before_any p.1 q.1 _ _ p.2 q.2 _ r1 r2 Ho.out Ho2.out Hn.out Hn2.out).mono ?_
                rintro e w4 ⟨rfl, hb4⟩
                rw [Hbf.out]
                go_wp2
                exact ⟨⟨k + 1, by omega, by go_num, HK2, tc.trans (hb4.mono tc.size)⟩, by simp [intOf]; omega⟩
              | false =>
                have Hbad := Lib.hid (repB_bef (ok := okV) Hq.out Hp.out hltk hbf)
                have Hbf := Lib.hid (show befV (p.1, p.2) (q.1, q.2) = false from hbf)
                clear hbf HK
                go_wp2
                go_still_tail 8, (by kernel_rfl)
                change wpList _ _ _ _ _ wr.drew
                clear e0 e1 f0 f1 hb
                generalize wr.drew = w3 at *
                go_wp2_with fail
                refine (before_any p.1 q.1 _ _ p.2 q.2 _ r1 r2 Ho.out Ho2.out Hn.out Hn2.out).mono ?_
                rintro e w4 ⟨rfl, hb4⟩
                rw [Hbf.out]
                go_wp2
                go_ret
                exact ⟨ret_bool Hbad.out.symm, tc.trans (hb4.mono tc.size)⟩
            · have hke : k = i := by omega
              subst hke
              have HG2 := Lib.hid (good_step HG.out Hq.out Hok.out HK.out)
              go_wp2
              exact ⟨⟨k + 1, by omega, by go_num, HG2, hb⟩, by simp [intOf]; omega⟩
      · have hie : i = vs.length := by omega
        subst hie
        have Hy := Lib.hid (repB_yes hd2 HG.out)
        go_wp2
        go_ret
        exact ⟨ret_bool Hy.out.symm, hb⟩

end Go.Proofs.Ytbljapihmkmolaa
