/-
  DERIVED. GIVEN WITH THE SEED: THE CARDS: each row of YtljfpeipcfankaaGreatDoorRows.lean that lists a variable, with what it lists TIED to the program's text (the seventh form; the later family's looks); each row that meets fmt, with fmt's text TOLD by the authors' own Lean function (tested against real Go, not proved from fmt's source: count such statements apart). THE CARD IS WHAT COUNTS. Prove the row's statement (the work); the ties are given (YtljfpeipcfankaaGreatDoorTie.lean); close each card by the builder's one call (the guide's Derived/Test/ToyasCard.lean, 'card_holds'). Laid BY PROGRAM, IN A SANDBOX (cutbox-door.mjs). By AI agents, Wed Nov 11 2026. No macro, syntax, notation, axiom, sorry.
-/
import Derived.Test.YtljfpeipcfankaaGreatDoorRows
import GoSem.ClaimSeven
namespace Go.Proofs.YtljfpeipcfankaaGreatDoor
namespace Rows

/-- THE TIED CARD OF 'laws.FnExactParseLibrary'. -/
def fnExactParseLibraryCard : Claim7 := { stood := { row := fnExactParseLibraryRow, standIns := [], harness := (true, "39de8a64ccb665c144c894d5e78fe19a63f9c51afdda9924643c41b5a6b190ab"), looks := true }, kinds := [], alts := [], laidByText := true, laidKinds := [.data, .data, .data, .data, .sentinel, .sentinel, .widerDeep, .widerDeep, .pinned], laidTests := true, laidLooks := .later }
def FnExactParseLibraryCardSaid : Prop := Claim7.holds Tryz.pinned (.plain (OpenSpec.ofChange fnExactParseLibrarySpec)) fnExactParseLibraryCard

/-- THE SECOND FORM's CARD OF 'laws.FnExactParseLibrary'. -/
def fnExactParseLibraryUptoCard : Claim7 := { stood := { row := fnExactParseLibraryUptoRow, standIns := [], harness := (true, "39de8a64ccb665c144c894d5e78fe19a63f9c51afdda9924643c41b5a6b190ab"), looks := true }, kinds := [], alts := [], laidByText := true, laidKinds := [.data, .data, .data, .data, .sentinel, .sentinel, .widerDeep, .widerDeep, .pinned], laidTests := true, laidLooks := .later }
def FnExactParseLibraryUptoCardSaid : Prop := Claim7.holds Tryz.pinned (.plain (OpenSpec.upto fnExactParseLibrarySpec)) fnExactParseLibraryUptoCard
end Rows
end Go.Proofs.YtljfpeipcfankaaGreatDoor
