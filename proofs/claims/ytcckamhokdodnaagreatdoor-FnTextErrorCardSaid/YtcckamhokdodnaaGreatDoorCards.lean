/-
  DERIVED. GIVEN WITH THE SEED: THE CARDS: each row of YtcckamhokdodnaaGreatDoorRows.lean that lists a variable, with what it lists TIED to the program's text (the seventh form; the later family's looks); each row that meets fmt, with fmt's text TOLD by the authors' own Lean function (tested against real Go, not proved from fmt's source: count such statements apart). THE CARD IS WHAT COUNTS. Prove the row's statement (the work); the ties are given (YtcckamhokdodnaaGreatDoorTie.lean); close each card by the builder's one call (the guide's Derived/Test/ToyasCard.lean, 'card_holds'). Laid BY PROGRAM, IN A SANDBOX (cutbox-door.mjs). By AI agents, Wed Nov 11 2026. No macro, syntax, notation, axiom, sorry.
-/
import Derived.Test.YtcckamhokdodnaaGreatDoorRows
import GoSem.ClaimSeven
namespace Go.Proofs.YtcckamhokdodnaaGreatDoor
namespace Rows

/-- THE TIED CARD OF 'laws.FnText'. -/
def fnTextCard : Claim7 := { stood := { row := fnTextRow, standIns := [], harness := (true, "a5114b22f9fbc797b03ca59239c1029ce77db534eae9f2e3081b78ce8fc815b6"), looks := true }, kinds := [], alts := [], laidByText := true, laidKinds := [.data, .data, .data, .data, .sentinel, .sentinel, .widerDeep, .widerDeep, .pinned], laidTests := true, laidLooks := .later }
def FnTextCardSaid : Prop := Claim7.holds Tryz.pinned (.plain (OpenSpec.ofChange fnTextSpec)) fnTextCard

/-- THE TIED CARD OF 'laws.FnTextError'. -/
def fnTextErrorCard : Claim7 := { stood := { row := fnTextErrorRow, standIns := [], harness := (true, "a5114b22f9fbc797b03ca59239c1029ce77db534eae9f2e3081b78ce8fc815b6"), looks := true }, kinds := [], alts := [], laidByText := true, laidKinds := [.data, .data, .data, .data, .sentinel, .sentinel, .widerDeep, .widerDeep, .pinned], laidTests := true, laidLooks := .later }
def FnTextErrorCardSaid : Prop := Claim7.holds Tryz.pinned (.plain (OpenSpec.ofChange fnTextErrorSpec)) fnTextErrorCard

/-- THE TIED CARD OF 'laws.FnTextAgain'. -/
def fnTextAgainCard : Claim7 := { stood := { row := fnTextAgainRow, standIns := [], harness := (true, "a5114b22f9fbc797b03ca59239c1029ce77db534eae9f2e3081b78ce8fc815b6"), looks := true }, kinds := [], alts := [], laidByText := true, laidKinds := [.data, .data, .data, .data, .sentinel, .sentinel, .widerDeep, .widerDeep, .pinned], laidTests := true, laidLooks := .later }
def FnTextAgainCardSaid : Prop := Claim7.holds Tryz.pinned (.plain (OpenSpec.ofChange fnTextAgainSpec)) fnTextAgainCard

/-- THE SECOND FORM's CARD OF 'laws.FnText'. -/
def fnTextUptoCard : Claim7 := { stood := { row := fnTextUptoRow, standIns := [], harness := (true, "a5114b22f9fbc797b03ca59239c1029ce77db534eae9f2e3081b78ce8fc815b6"), looks := true }, kinds := [], alts := [], laidByText := true, laidKinds := [.data, .data, .data, .data, .sentinel, .sentinel, .widerDeep, .widerDeep, .pinned], laidTests := true, laidLooks := .later }
def FnTextUptoCardSaid : Prop := Claim7.holds Tryz.pinned (.plain (OpenSpec.upto fnTextSpec)) fnTextUptoCard

/-- THE SECOND FORM's CARD OF 'laws.FnTextError'. -/
def fnTextErrorUptoCard : Claim7 := { stood := { row := fnTextErrorUptoRow, standIns := [], harness := (true, "a5114b22f9fbc797b03ca59239c1029ce77db534eae9f2e3081b78ce8fc815b6"), looks := true }, kinds := [], alts := [], laidByText := true, laidKinds := [.data, .data, .data, .data, .sentinel, .sentinel, .widerDeep, .widerDeep, .pinned], laidTests := true, laidLooks := .later }
def FnTextErrorUptoCardSaid : Prop := Claim7.holds Tryz.pinned (.plain (OpenSpec.upto fnTextErrorSpec)) fnTextErrorUptoCard

/-- THE SECOND FORM's CARD OF 'laws.FnTextAgain'. -/
def fnTextAgainUptoCard : Claim7 := { stood := { row := fnTextAgainUptoRow, standIns := [], harness := (true, "a5114b22f9fbc797b03ca59239c1029ce77db534eae9f2e3081b78ce8fc815b6"), looks := true }, kinds := [], alts := [], laidByText := true, laidKinds := [.data, .data, .data, .data, .sentinel, .sentinel, .widerDeep, .widerDeep, .pinned], laidTests := true, laidLooks := .later }
def FnTextAgainUptoCardSaid : Prop := Claim7.holds Tryz.pinned (.plain (OpenSpec.upto fnTextAgainSpec)) fnTextAgainUptoCard
end Rows
end Go.Proofs.YtcckamhokdodnaaGreatDoor
