/- FnExactParseLibrary returns true for all arguments. Conditions: the tables and the errors' variables are laid; Go's own bytealg.MaxLen holds a number; what taking a line answers. -/
import Derived.Test.YtljfpeipcfankaaGreatDoorParseK
import Derived.Test.YtljfpeipcfankaaGreatDoorMarkM
namespace Go.Proofs.YtljfpeipcfankaaGreatDoor
open Go.RowKit

theorem libTy : (tyOk3 24 ∧ 24 ≠ 40) ∧ (tyOk3 26 ∧ 26 ≠ 40) := by decide
set_option maxHeartbeats 3200000 in
set_option maxRecDepth 100000 in
theorem lawParseLibrary (hTI : TakesI) (hTS : TakesS) (s : ByteArray) (m : Int) (w : World) (hE : EnvP w.heap.size w) (hm : w.cell? ⟨0, 0, none⟩ = some (.int .i64 m)) :
    Calls Tryz.prog 3 #[.string s] w fun e w' => e = .returned (.bool true) ∧ Below w.heap.size w w' := by
  have h0w : 0 < w.heap.size := by have := hE.far; omega
  have HE := Lib.hid hE
  have Hm := Lib.hid hm
  clear hE hm
  go_enter Tryz.func3, Tryz.ntmps3
  rcases Nat.lt_or_ge 1048576 s.size with hbig | hs
  · have hbi : (1048576 : Int) < s.size := by omega
    go_wp2
    go_ret
    exact ⟨rfl, Below.refl _ _⟩
  have hbi : ¬ (1048576 : Int) < s.size := by omega
  go_wp2_with fail
  refine (parse_spec hTS s _ hs).mono ?_
  rintro e w1 ⟨v1, ps1, a, b, c, rfl, Hv1, C1, -, hb1⟩
  obtain ⟨A1, k1, rfl, -, -⟩ := C1.form
  have hb1s := hb1.size
  have x1 : Hid (Below w1.heap.size w1 ((w1.alloc (.cells #[(.slice A1 ps1.length k1)] 24)).alloc (.cells #[.int .i64 a, .int .i64 b, .int .i64 c] 26))) := Lib.hid (((Below.refl _ _).alloc (Nat.le_refl _) _).alloc (by simp) _)
  have y3 : Hid (Bk ((w1.alloc (.cells #[(.slice A1 ps1.length k1)] 24)).alloc (.cells #[.int .i64 a, .int .i64 b, .int .i64 c] 26)) w1.heap.size 24 #[(.slice A1 ps1.length k1)]) := Lib.hid ((Bk.new w1 24 #[(.slice A1 ps1.length k1)]).alloc _)
  have y4 : Hid (Bk ((w1.alloc (.cells #[(.slice A1 ps1.length k1)] 24)).alloc (.cells #[.int .i64 a, .int .i64 b, .int .i64 c] 26)) (w1.heap.size + 1) 26 #[.int .i64 a, .int .i64 b, .int .i64 c]) := Lib.hid (by have h := Bk.new (w1.alloc (.cells #[(.slice A1 ps1.length k1)] 24)) 26 #[.int .i64 a, .int .i64 b, .int .i64 c]; simpa using h)
  have T2 := x1
  have C1 := Lib.hid C1
  have t0 := Lib.hid hb1
  have HE1 := Lib.hid (HE.out.on (hb1.trans (x1.out.mono hb1s)))
  have hm1 := ((hb1.trans (x1.out.mono hb1s)).cell (p := ⟨0, 0, none⟩) h0w).trans Hm.out
  have hs1 := Nat.le_trans hb1s x1.out.size
  have hs12 := x1.out.size
  have hw3 := y3.out.lt
  have hw4 := y4.out.lt
  clear hb1 x1
  go_wp2_with fail
  generalize ((w1.alloc (.cells #[(.slice A1 ps1.length k1)] 24)).alloc (.cells #[.int .i64 a, .int .i64 b, .int .i64 c] 26)) = w2 at *
  refine (parse_impl hTI s m w.heap.size _ hs HE1.out hs1 hm1).mono ?_
  rintro e w3 ⟨v2, ps2, a2, b2, c2, rfl, Hv2, C2, hA2, hb3⟩
  obtain ⟨A2, k2, rfl, -, -⟩ := C2.form
  have heq := Hv1.out.symm.trans Hv2.out
  simp only [Prod.mk.injEq] at heq
  obtain ⟨hps, rfl, rfl, rfl⟩ := heq
  have Hok : Hid (LibOk (ps2.map Prod.fst)) := Lib.hid (by have h := parse_ok s.size (linesT s); rw [Hv2.out] at h; exact h)
  have Hps := Lib.hid hps
  have HA2 := Lib.hid hA2
  clear hps hA2
  have y3 := Lib.hid (y3.out.on hb3)
  have y4 := Lib.hid (y4.out.on hb3)
  have qa0 : w3.cell? ⟨w1.heap.size, 0, none⟩ = some (.slice A1 ps1.length k1) := y3.out.cell 0
  have qal : w1.heap.size < w3.heap.size := y3.out.lt
  have qb0 : w3.cell? ⟨w1.heap.size + 1, 0, none⟩ = some (.int .i64 a) := y4.out.cell 0
  have qb1 : w3.cell? ⟨w1.heap.size + 1, 1, none⟩ = some (.int .i64 b) := y4.out.cell 1
  have qb2 : w3.cell? ⟨w1.heap.size + 1, 2, none⟩ = some (.int .i64 c) := y4.out.cell 2
  have qbl : w1.heap.size + 1 < w3.heap.size := y4.out.lt
  have x3 : Hid (Below w3.heap.size w3 ((w3.alloc (.cells #[(.slice A2 ps2.length k2)] 24)).alloc (.cells #[.int .i64 a, .int .i64 b, .int .i64 c] 26))) := Lib.hid (((Below.refl _ _).alloc (Nat.le_refl _) _).alloc (by simp) _)
  have y5 : Hid (Bk ((w3.alloc (.cells #[(.slice A2 ps2.length k2)] 24)).alloc (.cells #[.int .i64 a, .int .i64 b, .int .i64 c] 26)) w3.heap.size 24 #[(.slice A2 ps2.length k2)]) := Lib.hid ((Bk.new w3 24 #[(.slice A2 ps2.length k2)]).alloc _)
  have y6 : Hid (Bk ((w3.alloc (.cells #[(.slice A2 ps2.length k2)] 24)).alloc (.cells #[.int .i64 a, .int .i64 b, .int .i64 c] 26)) (w3.heap.size + 1) 26 #[.int .i64 a, .int .i64 b, .int .i64 c]) := Lib.hid (by have h := Bk.new (w3.alloc (.cells #[(.slice A2 ps2.length k2)] 24)) 26 #[.int .i64 a, .int .i64 b, .int .i64 c]; simpa using h)
  have D2 := Lib.hid (C2.on x3.out)
  have y3 := Lib.hid (y3.out.on x3.out)
  have y4 := Lib.hid (y4.out.on x3.out)
  have T5 := Lib.hid ((T2.out.trans (hb3.mono hs12)).trans (x3.out.mono (Nat.le_trans hs12 hb3.size)))
  have s25 := Nat.le_trans hb3.size x3.out.size
  clear C2 hb3 x3
  go_wp2_with fail
  clear qa0 qal qb0 qb1 qb2 qbl
  generalize ((w3.alloc (.cells #[(.slice A2 ps2.length k2)] 24)).alloc (.cells #[.int .i64 a, .int .i64 b, .int .i64 c] 26)) = w5 at *
  refine (eqLib_same _ _ (ps2.map Prod.fst) _ ⟨ps2, rfl, D2.out.less (Nat.zero_le _)⟩ ⟨ps1, Hps.out, (C1.out.on T5.out).less (Nat.zero_le _)⟩).mono ?_
  rintro e w6 ⟨rfl, hb6⟩
  have D2 := Lib.hid (D2.out.on hb6)
  have y3 := Lib.hid (y3.out.on hb6)
  have y4 := Lib.hid (y4.out.on hb6)
  have y5 := Lib.hid (y5.out.on hb6)
  have y6 := Lib.hid (y6.out.on hb6)
  have T6 := Lib.hid (T5.out.trans (hb6.mono (Nat.le_trans hs12 s25)))
  have s26 := Nat.le_trans s25 hb6.size
  clear hb6 T5
  have qb0 : w6.cell? ⟨w1.heap.size + 1, 0, none⟩ = some (.int .i64 a) := y4.out.cell 0
  have qb1 : w6.cell? ⟨w1.heap.size + 1, 1, none⟩ = some (.int .i64 b) := y4.out.cell 1
  have qb2 : w6.cell? ⟨w1.heap.size + 1, 2, none⟩ = some (.int .i64 c) := y4.out.cell 2
  have qbl : w1.heap.size + 1 < w6.heap.size := y4.out.lt
  have qd0 : w6.cell? ⟨w3.heap.size + 1, 0, none⟩ = some (.int .i64 a) := y6.out.cell 0
  have qd1 : w6.cell? ⟨w3.heap.size + 1, 1, none⟩ = some (.int .i64 b) := y6.out.cell 1
  have qd2 : w6.cell? ⟨w3.heap.size + 1, 2, none⟩ = some (.int .i64 c) := y6.out.cell 2
  have qdl : w3.heap.size + 1 < w6.heap.size := y6.out.lt
  go_wp2_with fail
  refine (eqErr_same a b c _).mono ?_
  rintro e w7 ⟨rfl, hb7⟩
  clear qb0 qb1 qb2 qbl qd0 qd1 qd2 qdl
  have D2 := Lib.hid (D2.out.on hb7)
  have y3 := Lib.hid (y3.out.on hb7)
  have y4 := Lib.hid (y4.out.on hb7)
  have y5 := Lib.hid (y5.out.on hb7)
  have y6 := Lib.hid (y6.out.on hb7)
  have T7 := Lib.hid (T6.out.trans (hb7.mono (Nat.le_trans hs12 s26)))
  have s27 := Nat.le_trans s26 hb7.size
  clear hb7 T6
  have qc0 : w7.cell? ⟨w3.heap.size, 0, none⟩ = some (.slice A2 ps2.length k2) := y5.out.cell 0
  have qcl : w3.heap.size < w7.heap.size := y5.out.lt
  go_wp2_with fail
  refine (markLib_any _ ps2 _ w2.heap.size D2.out s27 HA2.out Hok.out).mono ?_
  rintro e w8 ⟨rfl, hM, hb8, hk8⟩
  clear qc0 qcl
  have M := Lib.hid hM
  have y3 := Lib.hid (hk8 _ _ _ libTy.1.1 libTy.1.2 y3.out)
  have y4 := Lib.hid (hk8 _ _ _ libTy.2.1 libTy.2.2 y4.out)
  have y5 := Lib.hid (hk8 _ _ _ libTy.1.1 libTy.1.2 y5.out)
  have y6 := Lib.hid (hk8 _ _ _ libTy.2.1 libTy.2.2 y6.out)
  have T8 := Lib.hid (T7.out.trans (hb8.mono hs12))
  have s28 := Nat.le_trans s27 hb8.size
  obtain ⟨K, hK⟩ : ∃ K, kAt 1 ps2 ps2.length = K := ⟨_, rfl⟩
  have hKb := (kAt_bound 1 ps2 ps2.length (fun p hp => Hok.out.2 p.1 (List.mem_map_of_mem hp))).1
  rw [hK] at hKb ⊢
  have HK := Lib.hid hK
  have hKn : ¬ K < 0 := by omega
  clear hM hb8 hk8 hK T7 D2
  have qc0 : w8.cell? ⟨w3.heap.size, 0, none⟩ = some (.slice A2 ps2.length k2) := y5.out.cell 0
  have qcl : w3.heap.size < w8.heap.size := y5.out.lt
  go_wp2_with fail
  refine (heldLib_any _ ps2 _ (M.out.less (Nat.zero_le _)) Hok.out).mono ?_
  rintro e w9 ⟨rfl, hb9⟩
  rw [HK.out]
  clear qc0 qcl
  have M := Lib.hid (M.out.on hb9)
  have y3 := Lib.hid (y3.out.on hb9)
  have y4 := Lib.hid (y4.out.on hb9)
  have y5 := Lib.hid (y5.out.on hb9)
  have y6 := Lib.hid (y6.out.on hb9)
  have T9 := Lib.hid (T8.out.trans (hb9.mono (Nat.le_trans hs12 s28)))
  have s29 := Nat.le_trans s28 hb9.size
  clear hb9 T8
  have t9 := Lib.hid (t0.out.trans (T9.out.mono hb1s))
  have HE9 := Lib.hid (HE.out.on t9.out)
  have hm9 := (t9.out.cell (p := ⟨0, 0, none⟩) h0w).trans Hm.out
  have hs9 := t9.out.size
  go_wp2_with fail
  refine (parse_impl hTI s m w.heap.size _ hs HE9.out hs9 hm9).mono ?_
  rintro e w11 ⟨v3, ps3, a3, b3, c3, rfl, Hv3, C3', -, hb11⟩
  obtain ⟨A3, k3, rfl, -, -⟩ := C3'.form
  have heq := Hv2.out.symm.trans Hv3.out
  simp only [Prod.mk.injEq] at heq
  obtain ⟨hps3, rfl, rfl, rfl⟩ := heq
  have Hps3 := Lib.hid hps3
  clear hps3
  have y3 := Lib.hid (y3.out.on hb11)
  have y4 := Lib.hid (y4.out.on hb11)
  have y5 := Lib.hid (y5.out.on hb11)
  have y6 := Lib.hid (y6.out.on hb11)
  have qa0 : w11.cell? ⟨w1.heap.size, 0, none⟩ = some (.slice A1 ps1.length k1) := y3.out.cell 0
  have qal : w1.heap.size < w11.heap.size := y3.out.lt
  have qb0 : w11.cell? ⟨w1.heap.size + 1, 0, none⟩ = some (.int .i64 a) := y4.out.cell 0
  have qb1 : w11.cell? ⟨w1.heap.size + 1, 1, none⟩ = some (.int .i64 b) := y4.out.cell 1
  have qb2 : w11.cell? ⟨w1.heap.size + 1, 2, none⟩ = some (.int .i64 c) := y4.out.cell 2
  have qbl : w1.heap.size + 1 < w11.heap.size := y4.out.lt
  have x11 : Hid (Below w11.heap.size w11 ((w11.alloc (.cells #[(.slice A3 ps3.length k3)] 24)).alloc (.cells #[.int .i64 a, .int .i64 b, .int .i64 c] 26))) := Lib.hid (((Below.refl _ _).alloc (Nat.le_refl _) _).alloc (by simp) _)
  have y9 : Hid (Bk ((w11.alloc (.cells #[(.slice A3 ps3.length k3)] 24)).alloc (.cells #[.int .i64 a, .int .i64 b, .int .i64 c] 26)) w11.heap.size 24 #[(.slice A3 ps3.length k3)]) := Lib.hid ((Bk.new w11 24 #[(.slice A3 ps3.length k3)]).alloc _)
  have y10 : Hid (Bk ((w11.alloc (.cells #[(.slice A3 ps3.length k3)] 24)).alloc (.cells #[.int .i64 a, .int .i64 b, .int .i64 c] 26)) (w11.heap.size + 1) 26 #[.int .i64 a, .int .i64 b, .int .i64 c]) := Lib.hid (by have h := Bk.new (w11.alloc (.cells #[(.slice A3 ps3.length k3)] 24)) 26 #[.int .i64 a, .int .i64 b, .int .i64 c]; simpa using h)
  have D3 := Lib.hid (C3'.on x11.out)
  have M := Lib.hid ((M.out.on hb11).on x11.out)
  have y3 := Lib.hid (y3.out.on x11.out)
  have y4 := Lib.hid (y4.out.on x11.out)
  have y5 := Lib.hid (y5.out.on x11.out)
  have y6 := Lib.hid (y6.out.on x11.out)
  have T12 := Lib.hid ((T9.out.trans (hb11.mono (Nat.le_trans hs12 s29))).trans (x11.out.mono (Nat.le_trans (Nat.le_trans hs12 s29) hb11.size)))
  have s2c := Nat.le_trans (Nat.le_trans s29 hb11.size) x11.out.size
  clear C3' hb11 x11 T9 t9
  go_wp2_with fail
  clear qa0 qal qb0 qb1 qb2 qbl
  generalize ((w11.alloc (.cells #[(.slice A3 ps3.length k3)] 24)).alloc (.cells #[.int .i64 a, .int .i64 b, .int .i64 c] 26)) = w12 at *
  refine (eqLib_same _ _ (ps3.map Prod.fst) _ ⟨ps3, rfl, D3.out.less (Nat.zero_le _)⟩ ⟨ps1, Hps.out.trans Hps3.out, (C1.out.on T12.out).less (Nat.zero_le _)⟩).mono ?_
  rintro e w13 ⟨rfl, hb13⟩
  have M := Lib.hid (M.out.on hb13)
  have y4 := Lib.hid (y4.out.on hb13)
  have y5 := Lib.hid (y5.out.on hb13)
  have y10 := Lib.hid (y10.out.on hb13)
  have T13 := Lib.hid (T12.out.trans (hb13.mono (Nat.le_trans hs12 s2c)))
  have s2d := Nat.le_trans s2c hb13.size
  clear hb13 T12 D3
  have qb0 : w13.cell? ⟨w1.heap.size + 1, 0, none⟩ = some (.int .i64 a) := y4.out.cell 0
  have qb1 : w13.cell? ⟨w1.heap.size + 1, 1, none⟩ = some (.int .i64 b) := y4.out.cell 1
  have qb2 : w13.cell? ⟨w1.heap.size + 1, 2, none⟩ = some (.int .i64 c) := y4.out.cell 2
  have qbl : w1.heap.size + 1 < w13.heap.size := y4.out.lt
  have qd0 : w13.cell? ⟨w11.heap.size + 1, 0, none⟩ = some (.int .i64 a) := y10.out.cell 0
  have qd1 : w13.cell? ⟨w11.heap.size + 1, 1, none⟩ = some (.int .i64 b) := y10.out.cell 1
  have qd2 : w13.cell? ⟨w11.heap.size + 1, 2, none⟩ = some (.int .i64 c) := y10.out.cell 2
  have qdl : w11.heap.size + 1 < w13.heap.size := y10.out.lt
  go_wp2_with fail
  refine (eqErr_same a b c _).mono ?_
  rintro e w14 ⟨rfl, hb14⟩
  clear qb0 qb1 qb2 qbl qd0 qd1 qd2 qdl
  have M := Lib.hid (M.out.on hb14)
  have y5 := Lib.hid (y5.out.on hb14)
  have T14 := Lib.hid (T13.out.trans (hb14.mono (Nat.le_trans hs12 s2d)))
  have s2e := Nat.le_trans s2d hb14.size
  clear hb14 T13
  have qc0 : w14.cell? ⟨w3.heap.size, 0, none⟩ = some (.slice A2 ps2.length k2) := y5.out.cell 0
  have qcl : w3.heap.size < w14.heap.size := y5.out.lt
  go_wp2_with fail
  refine (heldLib_any _ ps2 _ (M.out.less (Nat.zero_le _)) Hok.out).mono ?_
  rintro e w15 ⟨rfl, hb15⟩
  rw [HK.out]
  have T15 := Lib.hid (T14.out.trans (hb15.mono (Nat.le_trans hs12 s2e)))
  clear hb15
  go_wp2
  go_ret
  exact ⟨rfl, t0.out.trans (T15.out.mono hb1s)⟩

end Go.Proofs.YtljfpeipcfankaaGreatDoor
