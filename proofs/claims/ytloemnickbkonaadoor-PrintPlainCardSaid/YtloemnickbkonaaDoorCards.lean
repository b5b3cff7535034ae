/-
  DERIVED. GIVEN WITH THE SEED: THE CARDS: each row of YtloemnickbkonaaDoorRows.lean that lists a variable, with what it lists TIED to the program's text (the seventh form; the later family's looks); each row that meets fmt, with fmt's text TOLD by the authors' own Lean function (tested against real Go, not proved from fmt's source: count such statements apart). THE CARD IS WHAT COUNTS. Prove the row's statement (the work); the ties are given (YtloemnickbkonaaDoorTie.lean); close each card by the builder's one call (the guide's Derived/Test/ToyasCard.lean, 'card_holds'). Laid BY PROGRAM, IN A SANDBOX (cutbox-door.mjs). By AI agents, Wed Nov 11 2026. No macro, syntax, notation, axiom, sorry.
-/
import Derived.Test.YtloemnickbkonaaDoorRows
import GoSem.ClaimSeven
namespace Go.Proofs.YtloemnickbkonaaDoor
namespace Rows

/-- THE TIED CARD OF 'accordionlaw12.PrintPlain'. -/
def printPlainCard : Claim7 := { stood := { row := printPlainRow, standIns := [], harness := (true, "e626d71c2a66532da562253973b0342e6884d1070772d91d0acd27f3d0f3eab3"), looks := false }, kinds := [], alts := [], laidByText := true, laidKinds := [.data, .data, .data, .data, .pinned], laidTests := true, laidLooks := .later }
def PrintPlainCardSaid : Prop := Claim7.holds Tryd.pinned (.plain (OpenSpec.ofChange printPlainSpec)) printPlainCard

/-- THE SECOND FORM's CARD OF 'accordionlaw12.PrintPlain'. -/
def printPlainUptoCard : Claim7 := { stood := { row := printPlainUptoRow, standIns := [], harness := (true, "e626d71c2a66532da562253973b0342e6884d1070772d91d0acd27f3d0f3eab3"), looks := false }, kinds := [], alts := [], laidByText := true, laidKinds := [.data, .data, .data, .data, .pinned], laidTests := true, laidLooks := .later }
def PrintPlainUptoCardSaid : Prop := Claim7.holds Tryd.pinned (.plain (OpenSpec.upto printPlainSpec)) printPlainUptoCard
end Rows
end Go.Proofs.YtloemnickbkonaaDoor
