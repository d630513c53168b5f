/-
  DERIVED. GIVEN WITH THE SEED: THE CARDS: each row of YtkehfolcfcbplaaGreatDoorRows.lean that lists a variable, with what it lists TIED to the program's text (the seventh form; the later family's looks); each row that meets fmt, with fmt's text TOLD by the authors' own Lean function (tested against real Go, not proved from fmt's source: count such statements apart). THE CARD IS WHAT COUNTS. Prove the row's statement (the work); the ties are given (YtkehfolcfcbplaaGreatDoorTie.lean); close each card by the builder's one call (the guide's Derived/Test/ToyasCard.lean, 'card_holds'). Laid BY PROGRAM, IN A SANDBOX (cutbox-door.mjs). By AI agents, Wed Nov 11 2026. No macro, syntax, notation, axiom, sorry.
-/
import Derived.Test.YtkehfolcfcbplaaGreatDoorRows
import GoSem.ClaimSeven
namespace Go.Proofs.YtkehfolcfcbplaaGreatDoor
namespace Rows

/-- THE TIED CARD OF 'lariatlaw24.LtextParses'. -/
def ltextParsesCard : Claim7 := { stood := { row := ltextParsesRow, standIns := [], harness := (true, "28d21095a9c5a9d96b99ea382371fee23b19cc88543584b40d7143c3e6ea3a42"), looks := true }, kinds := [], alts := [], laidByText := true, laidKinds := [.data, .data, .data, .sentinel, .sentinel, .data, .data, .widerDeep], laidTests := true, laidLooks := .later }
def LtextParsesCardSaid : Prop := Claim7.holds Tryz.pinned (.plain (OpenSpec.ofChange ltextParsesSpec)) ltextParsesCard

/-- THE SECOND FORM's CARD OF 'lariatlaw24.LtextParses'. -/
def ltextParsesUptoCard : Claim7 := { stood := { row := ltextParsesUptoRow, standIns := [], harness := (true, "28d21095a9c5a9d96b99ea382371fee23b19cc88543584b40d7143c3e6ea3a42"), looks := true }, kinds := [], alts := [], laidByText := true, laidKinds := [.data, .data, .data, .sentinel, .sentinel, .data, .data, .widerDeep], laidTests := true, laidLooks := .later }
def LtextParsesUptoCardSaid : Prop := Claim7.holds Tryz.pinned (.plain (OpenSpec.upto ltextParsesSpec)) ltextParsesUptoCard
end Rows
end Go.Proofs.YtkehfolcfcbplaaGreatDoor
