/- FnTextError, the given statement: the law's walk carried to the row. No conditions. -/
import Derived.Test.YtcckamhokdodnaaGreatDoorRows
import Derived.Test.YtcckamhokdodnaaGreatDoorFnTErr
import Derived.Test.YtcckamhokdodnaaGreatDoorCards
import Derived.Test.YtcckamhokdodnaaGreatDoorTie
import Derived.ProofKit
import Derived.LaidMore
import Derived.Lib.LaidTab
import Derived.Stop.Joined
import Derived.Stop.LaidErr
import Derived.SevenTiedAt
import Derived.OpenShut
import Derived.Carry
import Derived.Shelf.Vars
import Derived.Lay
import Derived.ShutString
import Derived.ChangeOld
import Derived.Below
namespace Go.Proofs.YtcckamhokdodnaaGreatDoor.fnTextError
open Go.ChangeShapes Go.WideShapes Go.ChangeAt Go.RowKit
open Go.ChangeMaps (open_string shut_string)
set_option linter.unusedVariables false

theorem own : ownKnob Tryz.prog.godebug = none := by kernel_rfl
theorem laidOut : laidOutB Tryz.prog = true := by kernel_rfl
/-- The laid heap meets the condition. -/
theorem door_met (os : Os) (args : Array Value) : laidMetH Tryz.prog Rows.fnTextErrorRow.laid ((World.laidAll Tryz.prog os Rows.fnTextErrorRow.laid).forCall (fun _ _ => 0) ⟨#[], args, []⟩).memory := by
  rw [MakeChecks.laidMetH_plain _ _ _ (by kernel_rfl)]
  exact laidMet_laidAll _ (by kernel_rfl) (by kernel_rfl)
theorem powType : (Tryz.prog.globals[3]?).map (·.type) = some 162 := by kernel_rfl
theorem bytes_ext {a b : ByteArray} (h : a.data.toList = b.data.toList) : a = b := ByteArray.ext (Array.toList_inj.1 h)
theorem var_far {P : Program} {W : World} {n : String} {g : Nat} {cs : Array Value} (hg : P.globalNamed n = some g) (hv : W.var? P n = some cs) : g < W.heap.size := by
  simp only [World.var?, hg, Option.bind_some] at hv
  split at hv
  · rename_i c a b hh
    exact (Array.getElem?_eq_some_iff.1 hh).1
  · cases hv
theorem synAt : Tryz.prog.globalNamed "strconv.ErrSyntax" = some 6 := by kernel_rfl
theorem ranAt : Tryz.prog.globalNamed "strconv.ErrRange" = some 7 := by kernel_rfl
theorem synType : (Tryz.prog.globals[6]?).map (·.type) = some 55 := by kernel_rfl
theorem ranType : (Tryz.prog.globals[7]?).map (·.type) = some 55 := by kernel_rfl
theorem starE : "*" ++ "errors.errorString" = "*errors.errorString" := by decide
theorem rowE (u : TypeId) (h : Tryz.prog.typeName? 3 u = some "*errors.errorString") : u = 183 :=
  typeName_ptr_named (nm := "errors.errorString") (by rw [starE]; kernel_rfl) (by kernel_rfl) (by decide) u (by rw [starE]; exact h)
theorem cellsE : Tryz.prog.cellsOf 185 = 1 := by kernel_rfl
theorem cellsS : Tryz.prog.cellsOf 9 = 1 := by kernel_rfl
/-- What the condition says of a table of strings that stands first. -/
theorem names_of_head {P : Program} {W : World} {name : String} {zs : List ByteArray} {rest : List (String × DataW Unit)} {g : Nat} {t e : TypeId} {n : Nat}
    (hg : P.globalNamed name = some g) (hty : (P.globals[g]?).map (·.type) = some t) (ht : P.underlying t = some (.array n e)) (he : P.underlying e = some .string) (hce : P.cellsOf e = 1)
    (h : laidMet P ((name, .agg (zs.map fun s => .lit (.string s.data.toList))) :: rest) W) : (∀ k, k < n → W.cell? ⟨g, k, none⟩ = some (.string (zs.getD k ⟨#[]⟩))) ∧ g < W.heap.size := by
  obtain ⟨ps, ⟨g', t', cs, fuel, p, q, hg', ht', hvar, hd, -, -⟩, -⟩ := h
  obtain rfl := Option.some.inj (hg.symm.trans hg')
  obtain rfl := Option.some.inj (hty.symm.trans ht')
  obtain ⟨xs, m, -, hx, -, hxl, hf⟩ := DataW.trod_array ht hd
  refine ⟨fun k hk => ?_, ?_⟩
  · rw [World.var?_cell hg hvar k]
    have hk2 : k < xs.length := by omega
    have h1 := hf k hk
    rw [List.getElem?_eq_getElem hk2, hce] at h1
    obtain ⟨s, hs, hy, -⟩ := DataW.trod_string he h1
    have h2 : cs[k]? = some (.string s) := by
      have := congrArg (·[0]?) hs
      simpa [List.getElem?_take, List.getElem?_drop] using this
    have h3 := congrArg Prod.fst hx
    simp only [DataW.agg.injEq] at h3
    have h4 := congrArg (·[k]?) h3
    simp only [List.getElem?_map, List.getElem?_eq_getElem hk2, Option.map_some, hy] at h4
    rw [Option.map_eq_some_iff] at h4
    obtain ⟨z, hz, hz2⟩ := h4
    simp only [DataW.lit.injEq, Lit.string.injEq] at hz2
    rw [h2, List.getD, hz, Option.getD_some, bytes_ext hz2]
  · simp only [World.var?, hg, Option.bind_some] at hvar
    split at hvar
    · rename_i c a b hh
      exact (Array.getElem?_eq_some_iff.1 hh).1
    · cases hvar
theorem layAt : Tryz.prog.globalNamed "loop.example/g00890/impl.layerNames" = some 1 := by kernel_rfl
theorem oriAt : Tryz.prog.globalNamed "loop.example/g00890/impl.orientationNames" = some 0 := by kernel_rfl
theorem layType : (Tryz.prog.globals[1]?).map (·.type) = some 77 := by kernel_rfl
theorem oriType : (Tryz.prog.globals[0]?).map (·.type) = some 77 := by kernel_rfl
/-- A table of names reads behind the call as ahead of it. -/
theorem one_kept {H : Type} {enc : TypeId × Value → H} {W W' : World} (hb : Below W.heap.size W W') {n : String} {g fuel : Nat} {cs : Array Value} {d : DataW H} {p : List MemPlace} (h1 : Tryz.prog.globalNamed n = some g)
    (h3 : W.var? Tryz.prog n = some cs) (h4 : DataW.trod enc Tryz.prog W 0 (fun _ => true) true fuel 77 cs.toList = some (d, p)) :
    W'.var? Tryz.prog n = some cs ∧ DataW.trod enc Tryz.prog W' 0 (fun b => decide (b < W.heap.size)) true fuel 77 cs.toList = some (d, p) := by
  have hr : Tryz.prog.readableRec 77 = true := by kernel_rfl
  have hlt : ∀ x ∈ p, x.block < W.heap.size := DataW.trod_lt fuel _ _ _ h4
  refine ⟨?_, DataW.trod_stays (Go.kids_book laidOut hr) (Go.book_sized hr) (fun h => by cases h) ⟨of_decide_eq_true (by kernel_rfl), Go.book_self _⟩ h4 (fun x hx => hb.same (hlt x hx)) (fun x hx => by simpa using hlt x hx)⟩
  have hg : g < W.heap.size := by
    simp only [World.var?, h1, Option.bind_some] at h3
    split at h3
    · rename_i c a b hh
      exact (Array.getElem?_eq_some_iff.1 hh).1
    · cases h3
  simp only [World.var?, h1, Option.bind_some] at h3 ⊢
  rw [hb.block g hg]
  exact h3
theorem vars_kept {H : Type} {enc : TypeId × Value → H} {W W' : World} (hb : Below W.heap.size W W') {gs : List (DataW H)} {ps : List MemPlace}
    (h : DataW.TrodVars enc Tryz.prog W (fun _ => true) ["loop.example/g00890/impl.layerNames", "loop.example/g00890/impl.orientationNames"] gs ps) :
    DataW.TrodVars enc Tryz.prog W' (fun b => decide (b < W.heap.size)) ["loop.example/g00890/impl.layerNames", "loop.example/g00890/impl.orientationNames"] gs ps := by
  obtain ⟨g0, t0, cs0, f0, d0, p0, g1, t1, cs1, f1, d1, p1, rfl, a1, a2, a3, a4, b1, b2, b3, b4, rfl⟩ := trodVars_two h
  obtain rfl := Option.some.inj (layAt.symm.trans a1)
  obtain rfl := Option.some.inj (oriAt.symm.trans b1)
  obtain rfl := Option.some.inj (layType.symm.trans a2)
  obtain rfl := Option.some.inj (oriType.symm.trans b2)
  obtain ⟨u1, u2⟩ := one_kept hb a1 a3 a4
  obtain ⟨v1, v2⟩ := one_kept hb b1 b3 b4
  exact ⟨_, _, _, _, _, _, a1, a2, u1, u2, trodVars_mk1 b1 b2 v1 v2, rfl⟩
/-- returnsInHanded_of_change_and, with the world's shape. -/
theorem handed_shaped {H : Type} {enc : TypeId × Value → H} {a : Assume} {C : Checked} {os : Os} {f : FuncId} {fn : Func} {s : ChangeSpec} {conds : List PathCond} {apart fresh handsOn again : Bool} {X : World → Array Value → Prop}
    (hX : ∀ (w w' : World) (args : Array Value), w.heap = w'.heap → X w args → X w' args)
    (own : ownKnob C.prog.godebug = none) (started : os.Started) (noInit : C.prog.inits.idxOf? f = none) (hfn : C.prog.funcs[f]? = some fn)
    (witness : ∃ (w : World) (tape : Tape) (i : Input), w.os = os ∧ (w.forCall tape i).Shaped C.prog ∧ i.vars = [] ∧ Input.okWide C.prog (w.forCall tape i) .any w.heap.size f i ∧
      ((s.pre enc C.prog fn conds apart (w.forCall tape i).memory i.args ∧ X (w.forCall tape i).memory i.args) ∧ sizedMet enc C.prog fn (OpenSpec.ofChange s) apart (w.forCall tape i).memory i.args) ∧ a.holds C.prog (lone (Frame.enter C.prog f i.args .normal) [] (w.forCall tape i)))
    (contract : ∀ (W : World) (base : Nat) (args : Array Value) (ds gs : List (DataW H)) (before : List MemPlace),
      (∀ (j : Nat) t v, fn.params[j]? = some t → args[j]? = some v → Value.okWide C.prog W .any base t v) →
      DataW.Whole enc C.prog fn.params.toList s.vars apart W args.toList ds gs before →
      conds.all (PathCond.test C.prog ⟨fn.params.toList, ds, s.plain.varTypes C.prog, gs⟩) = true →
      (DataW.weightsEach C.prog (fn.params.toList ++ s.plain.varTypes C.prog) (ds ++ gs)).all (· ≤ reachBytes) = true → X W args → W.ShapedOpen C.prog →
      Calls C.prog f args W fun e W' => ∃ v, e = .returned v ∧ s.post enc C.prog fn apart fresh handsOn again W args v W') :
    ReturnsInHanded a C os f .any (fun w args => (s.pre enc C.prog fn conds apart w args ∧ X w args) ∧ sizedMet enc C.prog fn (OpenSpec.ofChange s) apart w args) (s.post enc C.prog fn apart fresh handsOn again) := by
  refine returnsInHanded_of_calls own started noInit witness ?_
  intro w tape i _ hsh _ hok hpre _
  obtain ⟨_, _, _, fn', hfn', _, _, _, _, hval⟩ := hok
  have e : fn' = fn := Option.some.inj (hfn'.symm.trans hfn)
  subst e
  obtain ⟨⟨⟨ds, gs, before, hw, hc⟩, hx⟩, hz⟩ := hpre
  have hw' := DataW.Whole.of_heap (w' := w.forCall tape i) (by rfl) hw
  refine (contract (w.forCall tape i) w.heap.size i.args ds gs before hval hw' hc (hz.weights hw) (hX _ _ _ (by rfl) hx) hsh).mono fun e W' ⟨v, he, hp⟩ => ?_
  subst he
  exact ChangeSpec.post_blind hp
/-- What the condition gives the walk: the three tables, the two errors. -/
theorem env_of {W : World} (h : laidMetH Tryz.prog Rows.fnTextErrorRow.laid W) : EnvP W.heap.size W := by
  rw [MakeChecks.laidMetH_plain _ _ _ (by kernel_rfl)] at h
  delta Rows.fnTextErrorRow at h
  dsimp only at h
  have h3 := Go.laidMet.tail (Go.laidMet.tail h)
  have h5 := Go.laidMet.tail (Go.laidMet.tail h3)
  have h6 := Go.laidMet.tail h5
  have h7 := Go.laidMet.tail h6
  have h8 := Go.laidMet.tail h7
  have e3 : (Rows.laid_internal_strconv_uint64pow10 : DataW Unit) = Lib.tabData .u64 Lib.pow10Tab := by kernel_rfl
  have e7 : (Rows.laid_loop_example_g00890_impl_orientationNames : DataW Unit) = .agg (oriN.map fun s => .lit (.string s.data.toList)) := by kernel_rfl
  have e8 : (Rows.laid_loop_example_g00890_impl_layerNames : DataW Unit) = .agg (layN.map fun s => .lit (.string s.data.toList)) := by kernel_rfl
  rw [e3] at h3
  rw [e7] at h7
  rw [e8] at h8
  have hT : Tab W := Lib.tabIs_of_head tabAt powType Tryz.underlying162 Tryz.underlying39 (by kernel_rfl) (by kernel_rfl) h3
  obtain ⟨a5, s5, hv5, -, -, -⟩ := laid_sentinel h5 ranAt ranType Tryz.underlying55 rowE Tryz.underlying183 Tryz.underlying185 rfl rfl Tryz.underlying9 cellsE cellsS
  obtain ⟨a6, s6, hv6, -, -, -⟩ := laid_sentinel h6 synAt synType Tryz.underlying55 rowE Tryz.underlying183 Tryz.underlying185 rfl rfl Tryz.underlying9 cellsE cellsS
  obtain ⟨o1, o2⟩ := names_of_head oriAt oriType Tryz.underlying77 Tryz.underlying9 (by kernel_rfl) h7
  obtain ⟨l1, l2⟩ := names_of_head layAt layType Tryz.underlying77 Tryz.underlying9 (by kernel_rfl) h8
  exact ⟨⟨hT.at_, l1, o1, l2, o2⟩, ⟨⟨_, _, World.var?_cell synAt hv6 0⟩, ⟨_, _, World.var?_cell ranAt hv5 0⟩⟩, var_far synAt hv6, var_far ranAt hv5⟩

set_option maxRecDepth 100000 in
theorem lifted (os : Os) (started : os.Started) (H : Type) (enc : TypeId × Value → H) :
    ReturnsInHanded {} Tryz.checked os 4 .any (fun w args => (Rows.fnTextErrorSpec.pre enc Tryz.prog Tryz.f4 [] false w args ∧ laidMetH Tryz.prog Rows.fnTextErrorRow.laid w) ∧ sizedMet enc Tryz.prog Tryz.f4 (OpenSpec.ofChange Rows.fnTextErrorSpec) false w args) (Rows.fnTextErrorSpec.post enc Tryz.prog Tryz.f4 false true false false) := by
  refine handed_shaped (C := Tryz.checked) (X := fun w _ => laidMetH Tryz.prog Rows.fnTextErrorRow.laid w) (fun _ _ _ hh h => h.of_heap hh) own started (by kernel_rfl) Tryz.func4
    (ChangeSpec.witness_shaped (enc := enc) (C := Tryz.checked) (os := os) (X := fun w _ => laidMetH Tryz.prog Rows.fnTextErrorRow.laid w) false (World.laidAll Tryz.prog os Rows.fnTextErrorRow.laid) #[.slice none 0 0] 8 (World.laidAll_os _ _ _) (World.shaped_of_ZipB (by kernel_rfl) (by kernel_rfl)) (by kernel_rfl) (by kernel_rfl) (by kernel_rfl) (door_met os _)) ?_
  intro W base args ds gs before hval0 hW _ _ hL hsh
  have hval : ∀ (j : Nat) t v, Tryz.f4.params[j]? = some t → args[j]? = some v → Value.okWide Tryz.prog W .any base t v := hval0
  have hW' := hW
  obtain ⟨p, q, hA0, hV, rfl, hfz, hnd⟩ := hW
  have hA : DataW.TrodAll enc Tryz.prog W 0 (fun _ => true) true Tryz.f4.params.toList args.toList ds p := hA0
  rw [Tryz.params4] at hA hval
  obtain ⟨v0, vs0, d0, ds0, p0, q0, hargs, rfl, rfl, h0, r0⟩ := trodAll_cons hA
  obtain ⟨rfl, rfl, rfl⟩ := trodAll_nil r0
  obtain rfl : args = #[v0] := by cases args; simp_all
  obtain ⟨_, _, _, _, x1, _, _, _, _, _, x2, _, rfl, -⟩ := trodVars_two hV
  have k0 := h0
  have lt0 : ∀ x ∈ p0, x.block < W.heap.size := by obtain ⟨m, hm⟩ := k0; exact DataW.trod_lt m _ _ _ hm
  obtain ⟨A0, n0, c0, rfl, e0, mx0, g0⟩ := open_bytes Tryz.underlying22 Tryz.underlying5 (by kernel_rfl) (hval 0 22 v0 rfl rfl) h0
  clear hA0 hval0
  have hE := env_of hL
  obtain ⟨m0, hm0⟩ := cell_of_shapedOpen_int (P := Tryz.prog) (g := 2) (t := 3) (zero := #[.int .i64 0]) hsh (of_decide_eq_true (by kernel_rfl)) (by kernel_rfl) rfl (by kernel_rfl) (by kernel_rfl) Tryz.underlying3
  refine (lawFnTextError A0 n0 c0 m0 W g0 (Nat.le_trans e0 mx0) hE hm0).mono fun e W' ⟨he, bel⟩ => ?_
  subst he
  exact ⟨_, rfl, _, _, _, [], _, _, hW', trodAll_mk1 (shut_bool Tryz.underlying4 _), (trodAll_cons_mk (Below.trod laidOut (by kernel_rfl) (of_decide_eq_true (by kernel_rfl)) k0 bel lt0) trodAll_mk0), vars_kept bel hV, bel.frame _, fun h => by cases h⟩

/-- The given statement. -/
theorem proved : Rows.FnTextErrorSaid :=
  OpenClaim.holds_of_wide 4 Tryz.f4 rfl rfl rfl rfl rfl rfl rfl ⟨rfl, rfl, rfl, rfl, rfl⟩ rfl rfl rfl rfl rfl (by kernel_rfl) Tryz.func4 (by kernel_rfl)
    (of_decide_eq_true (by kernel_rfl)) (by unfold Func.isWrapper; first | (rw [if_pos (by decide +kernel)]; kernel_rfl) | (rw [if_neg (by decide +kernel)]; exact ⟨rfl, rfl⟩))
    (fun os started H enc _ => lifted os started H enc)
/-- The given statement: the tied card. -/
theorem cardProved : Rows.FnTextErrorCardSaid :=
  Claim7.holds_tied_plain_at .later [] [.data, .data, .data, .data, .sentinel, .sentinel, .widerDeep, .widerDeep, .pinned] true _ true
    proved (fun _ h => by cases h) (by kernel_rfl) (fun _ h => by cases h) fnTextError_row_tie rfl ⟨rfl, rfl⟩ (by kernel_rfl) rfl
    (fun f fn hf hfn => by
      obtain rfl : f = 4 := Option.some.inj ((show Tryz.prog.funcNamed "loop.example/g00890/laws.FnTextError" = some 4 by kernel_rfl).symm.trans hf) |>.symm
      obtain rfl : fn = Tryz.f4 := (Option.some.inj (Tryz.func4.symm.trans hfn)).symm
      exact ⟨by kernel_rfl, fun j t ht => by
        rw [Tryz.params4] at ht
        have hm : t ∈ [22] := by simpa using Array.mem_of_getElem? ht
        have hall : ([22].all fun u => !Tryz.prog.wantsStandIn u) = true := by kernel_rfl
        exact (show Tryz.prog.wantsStandIn t = false by simpa using List.all_eq_true.1 hall t hm)⟩)
    (by kernel_rfl)
#print axioms cardProved
end Go.Proofs.YtcckamhokdodnaaGreatDoor.fnTextError

