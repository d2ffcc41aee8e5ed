/- FnExactFormatLibrary, the given statement: the law's walk carried to the row. No conditions. -/
import Derived.Test.YtfgpkhifbflnbaaGreatDoorRows
import Derived.Test.YtfgpkhifbflnbaaGreatDoorLawFormatLibrary
import Derived.Test.YtfgpkhifbflnbaaGreatDoorLibO
import Derived.Test.YtfgpkhifbflnbaaGreatDoorCards
import Derived.Test.YtfgpkhifbflnbaaGreatDoorTie
import Derived.ProofKit
import Derived.LaidMore
import Derived.Lib.LaidTab
import Derived.Stop.Joined
import Derived.Stop.LaidErr
import Derived.SevenTiedAt
import Derived.OpenShut
import Derived.Carry
import Derived.ShutString
import Derived.ChangeOld
import Derived.Below
namespace Go.Proofs.YtfgpkhifbflnbaaGreatDoor.fnExactFormatLibrary
open Go.ChangeShapes Go.WideShapes Go.ChangeAt Go.RowKit
open Go.ChangeMaps (open_string shut_string)
set_option linter.unusedVariables false

theorem own : ownKnob Tryz.prog.godebug = none := by kernel_rfl
theorem laidOut : laidOutB Tryz.prog = true := by kernel_rfl
/-- The door's own heap meets the condition. -/
theorem door_met (os : Os) (args : Array Value) : laidMetH Tryz.prog Rows.fnExactFormatLibraryRow.laid ((World.doorLaid Tryz.prog 34 os).forCall (fun _ _ => 0) ⟨#[], args, []⟩).memory :=
  laidMetH_of_parts3 (fuel := 8) (laidMet_of_run' 8 (by kernel_rfl) (by kernel_rfl)) (by kernel_rfl) (by kernel_rfl)
theorem powType : (Tryz.prog.globals[2]?).map (·.type) = some 149 := by kernel_rfl
/-- What the condition says of a table of strings that stands first. -/
theorem names_of_head {P : Program} {W : World} {name : String} {zs : List ByteArray} {rest : List (String × DataW Unit)} {g : Nat} {t e : TypeId} {n : Nat}
    (hg : P.globalNamed name = some g) (hty : (P.globals[g]?).map (·.type) = some t) (ht : P.underlying t = some (.array n e)) (he : P.underlying e = some .string) (hce : P.cellsOf e = 1)
    (h : laidMet P ((name, .agg (zs.map fun s => .lit (.string s.data.toList))) :: rest) W) : (∀ k, k < n → W.cell? ⟨g, k, none⟩ = some (.string (zs.getD k ⟨#[]⟩))) ∧ g < W.heap.size := by
  obtain ⟨ps, ⟨g', t', cs, fuel, p, q, hg', ht', hvar, hd, -, -⟩, -⟩ := h
  obtain rfl := Option.some.inj (hg.symm.trans hg')
  obtain rfl := Option.some.inj (hty.symm.trans ht')
  obtain ⟨xs, m, -, hx, -, hxl, hf⟩ := DataW.trod_array ht hd
  refine ⟨fun k hk => ?_, ?_⟩
  · rw [World.var?_cell hg hvar k]
    have hk2 : k < xs.length := by omega
    have h1 := hf k hk
    rw [List.getElem?_eq_getElem hk2, hce] at h1
    obtain ⟨s, hs, hy, -⟩ := DataW.trod_string he h1
    have h2 : cs[k]? = some (.string s) := by
      have := congrArg (·[0]?) hs
      simpa [List.getElem?_take, List.getElem?_drop] using this
    have h3 := congrArg Prod.fst hx
    simp only [DataW.agg.injEq] at h3
    have h4 := congrArg (·[k]?) h3
    simp only [List.getElem?_map, List.getElem?_eq_getElem hk2, Option.map_some, hy] at h4
    rw [Option.map_eq_some_iff] at h4
    obtain ⟨z, hz, hz2⟩ := h4
    simp only [DataW.lit.injEq, Lit.string.injEq] at hz2
    rw [h2, List.getD, hz, Option.getD_some, bytes_ext hz2]
  · simp only [World.var?, hg, Option.bind_some] at hvar
    split at hvar
    · rename_i c a b hh
      exact (Array.getElem?_eq_some_iff.1 hh).1
    · cases hvar
theorem layAt : Tryz.prog.globalNamed "loop.example/g00890/impl.layerNames" = some 0 := by kernel_rfl
theorem oriAt : Tryz.prog.globalNamed "loop.example/g00890/impl.orientationNames" = some 1 := by kernel_rfl
theorem layType : (Tryz.prog.globals[0]?).map (·.type) = some 105 := by kernel_rfl
theorem oriType : (Tryz.prog.globals[1]?).map (·.type) = some 105 := by kernel_rfl
/-- A table of names reads behind the call as ahead of it. -/
theorem one_kept {H : Type} {enc : TypeId × Value → H} {W W' : World} (hb : Below W.heap.size W W') {n : String} {g fuel : Nat} {cs : Array Value} {d : DataW H} {p : List MemPlace} (h1 : Tryz.prog.globalNamed n = some g)
    (h3 : W.var? Tryz.prog n = some cs) (h4 : DataW.trod enc Tryz.prog W 0 (fun _ => true) true fuel 105 cs.toList = some (d, p)) :
    W'.var? Tryz.prog n = some cs ∧ DataW.trod enc Tryz.prog W' 0 (fun b => decide (b < W.heap.size)) true fuel 105 cs.toList = some (d, p) := by
  have hr : Tryz.prog.readableRec 105 = true := by kernel_rfl
  have hlt : ∀ x ∈ p, x.block < W.heap.size := DataW.trod_lt fuel _ _ _ h4
  refine ⟨?_, DataW.trod_stays (Go.kids_book laidOut hr) (Go.book_sized hr) (fun h => by cases h) ⟨of_decide_eq_true (by kernel_rfl), Go.book_self _⟩ h4 (fun x hx => hb.same (hlt x hx)) (fun x hx => by simpa using hlt x hx)⟩
  have hg : g < W.heap.size := by
    simp only [World.var?, h1, Option.bind_some] at h3
    split at h3
    · rename_i c a b hh
      exact (Array.getElem?_eq_some_iff.1 hh).1
    · cases h3
  simp only [World.var?, h1, Option.bind_some] at h3 ⊢
  rw [hb.block g hg]
  exact h3
theorem vars_kept {H : Type} {enc : TypeId × Value → H} {W W' : World} (hb : Below W.heap.size W W') {gs : List (DataW H)} {ps : List MemPlace}
    (h : DataW.TrodVars enc Tryz.prog W (fun _ => true) ["loop.example/g00890/impl.layerNames", "loop.example/g00890/impl.orientationNames"] gs ps) :
    DataW.TrodVars enc Tryz.prog W' (fun b => decide (b < W.heap.size)) ["loop.example/g00890/impl.layerNames", "loop.example/g00890/impl.orientationNames"] gs ps := by
  obtain ⟨g0, t0, cs0, f0, d0, p0, g1, t1, cs1, f1, d1, p1, rfl, a1, a2, a3, a4, b1, b2, b3, b4, rfl⟩ := trodVars_two h
  obtain rfl := Option.some.inj (layAt.symm.trans a1)
  obtain rfl := Option.some.inj (oriAt.symm.trans b1)
  obtain rfl := Option.some.inj (layType.symm.trans a2)
  obtain rfl := Option.some.inj (oriType.symm.trans b2)
  obtain ⟨u1, u2⟩ := one_kept hb a1 a3 a4
  obtain ⟨v1, v2⟩ := one_kept hb b1 b3 b4
  exact ⟨_, _, _, _, _, _, a1, a2, u1, u2, trodVars_mk1 b1 b2 v1 v2, rfl⟩
/-- What the condition gives the walk: the three tables. -/
theorem env_of {W : World} (h : laidMetH Tryz.prog Rows.fnExactFormatLibraryRow.laid W) : Env W.heap.size W := by
  rw [MakeChecks.laidMetH_plain _ _ _ (by kernel_rfl)] at h
  delta Rows.fnExactFormatLibraryRow at h
  dsimp only at h
  have h3 := Go.laidMet.tail (Go.laidMet.tail h)
  have h4 := Go.laidMet.tail h3
  have h5 := Go.laidMet.tail h4
  have e3 : (Rows.laid_internal_strconv_uint64pow10 : DataW Unit) = Lib.tabData .u64 Lib.pow10Tab := by kernel_rfl
  have e4 : (Rows.laid_loop_example_g00890_impl_orientationNames : DataW Unit) = .agg (oriN.map fun s => .lit (.string s.data.toList)) := by kernel_rfl
  have e5 : (Rows.laid_loop_example_g00890_impl_layerNames : DataW Unit) = .agg (layN.map fun s => .lit (.string s.data.toList)) := by kernel_rfl
  rw [e3] at h3
  rw [e4] at h4
  rw [e5] at h5
  have hT : Tab W := Lib.tabIs_of_head tabAt powType Tryz.underlying149 Tryz.underlying141 (by kernel_rfl) (by kernel_rfl) h3
  obtain ⟨o1, o2⟩ := names_of_head oriAt oriType Tryz.underlying105 Tryz.underlying9 (by kernel_rfl) h4
  obtain ⟨l1, l2⟩ := names_of_head layAt layType Tryz.underlying105 Tryz.underlying9 (by kernel_rfl) h5
  exact ⟨hT.at_, l1, o1, l2, o2⟩

set_option maxRecDepth 100000 in
theorem lifted (os : Os) (started : os.Started) (H : Type) (enc : TypeId × Value → H) :
    ReturnsInHanded {} Tryz.checked os 3 .any (fun w args => (Rows.fnExactFormatLibrarySpec.pre enc Tryz.prog Tryz.f3 [] false w args ∧ laidMetH Tryz.prog Rows.fnExactFormatLibraryRow.laid w) ∧ sizedMet enc Tryz.prog Tryz.f3 (OpenSpec.ofChange Rows.fnExactFormatLibrarySpec) false w args) (Rows.fnExactFormatLibrarySpec.post enc Tryz.prog Tryz.f3 false true false false) := by
  refine returnsInHanded_of_change_and (C := Tryz.checked) (X := fun w _ => laidMetH Tryz.prog Rows.fnExactFormatLibraryRow.laid w) (fun _ _ _ hh h => h.of_heap hh) own started (by kernel_rfl) Tryz.func3
    (ChangeSpec.witness_shaped (enc := enc) (C := Tryz.checked) (os := os) (X := fun w _ => laidMetH Tryz.prog Rows.fnExactFormatLibraryRow.laid w) false (World.doorLaid Tryz.prog 34 os) #[.agg #[.slice none 0 0]] 8 rfl (World.shaped_of_RefB (by kernel_rfl) (by kernel_rfl)) (by kernel_rfl) (by kernel_rfl) (by kernel_rfl) (door_met os _)) ?_
  intro W base args ds gs before hval0 hW _ _ hL _
  have hval : ∀ (j : Nat) t v, Tryz.f3.params[j]? = some t → args[j]? = some v → Value.okWide Tryz.prog W .any base t v := hval0
  have hW' := hW
  obtain ⟨p, q, hA0, hV, rfl, hfz, hnd⟩ := hW
  have hA : DataW.TrodAll enc Tryz.prog W 0 (fun _ => true) true Tryz.f3.params.toList args.toList ds p := hA0
  rw [Tryz.params3] at hA hval
  obtain ⟨v0, vs0, d0, ds0, p0, q0, hargs, rfl, rfl, h0, r0⟩ := trodAll_cons hA
  obtain ⟨rfl, rfl, rfl⟩ := trodAll_nil r0
  obtain rfl : args = #[v0] := by cases args; simp_all
  obtain ⟨_, _, _, _, x1, _, _, _, _, _, x2, _, rfl, -⟩ := trodVars_two hV
  have k0 := h0
  have lt0 : ∀ x ∈ p0, x.block < W.heap.size := by obtain ⟨m, hm⟩ := k0; exact DataW.trod_lt m _ _ _ hm
  obtain ⟨A0, n0, c0, cs0, rfl, e0, m0, g0, nk0⟩ := open_lib (hval 0 24 v0 rfl rfl) h0
  clear hA0 hval0
  have hE := env_of hL
  refine (lawFormatLibrary A0 n0 c0 cs0 W e0 m0 g0 nk0 hE).mono fun e W' ⟨he, bel⟩ => ?_
  subst he
  exact ⟨_, rfl, _, _, _, [], _, _, hW', trodAll_mk1 (shut_bool Tryz.underlying4 _), (trodAll_cons_mk (Below.trod laidOut (by kernel_rfl) (of_decide_eq_true (by kernel_rfl)) k0 bel lt0) trodAll_mk0), vars_kept bel hV, bel.frame _, fun h => by cases h⟩

/-- The given statement. -/
theorem proved : Rows.FnExactFormatLibrarySaid :=
  OpenClaim.holds_of_wide 3 Tryz.f3 rfl rfl rfl rfl rfl rfl rfl ⟨rfl, rfl, rfl, rfl, rfl⟩ rfl rfl rfl rfl rfl (by kernel_rfl) Tryz.func3 (by kernel_rfl)
    (of_decide_eq_true (by kernel_rfl)) (by unfold Func.isWrapper; first | (rw [if_pos (by decide +kernel)]; kernel_rfl) | (rw [if_neg (by decide +kernel)]; exact ⟨rfl, rfl⟩))
    (fun os started H enc _ => lifted os started H enc)
/-- The given statement: the tied card. -/
theorem cardProved : Rows.FnExactFormatLibraryCardSaid :=
  Claim7.holds_tied_plain_at .later [] [.data, .data, .data, .widerDeep, .widerDeep] true _ false
    proved (fun _ h => by cases h) (by kernel_rfl) (fun _ h => by cases h) fnExactFormatLibrary_row_tie rfl ⟨rfl, rfl⟩ (by kernel_rfl) rfl
    (fun f fn hf hfn => by
      obtain rfl : f = 3 := Option.some.inj ((show Tryz.prog.funcNamed "loop.example/g00890/laws.FnExactFormatLibrary" = some 3 by kernel_rfl).symm.trans hf) |>.symm
      obtain rfl : fn = Tryz.f3 := (Option.some.inj (Tryz.func3.symm.trans hfn)).symm
      exact ⟨by kernel_rfl, fun j t ht => by
        rw [Tryz.params3] at ht
        have hm : t ∈ [24] := by simpa using Array.mem_of_getElem? ht
        have hall : ([24].all fun u => !Tryz.prog.wantsStandIn u) = true := by kernel_rfl
        exact (show Tryz.prog.wantsStandIn t = false by simpa using List.all_eq_true.1 hall t hm)⟩)
    (by kernel_rfl)
#print axioms cardProved
end Go.Proofs.YtfgpkhifbflnbaaGreatDoor.fnExactFormatLibrary
