/-
  DERIVED. GIVEN WITH THE SEED: THE CARDS: each row of YtjacphcnanopjaaDoorRows.lean that lists a variable, with what it lists TIED to the program's text (the seventh form; the later family's looks); each row that meets fmt, with fmt's text TOLD by the authors' own Lean function (tested against real Go, not proved from fmt's source: count such statements apart). THE CARD IS WHAT COUNTS. Prove the row's statement (the work); the ties are given (YtjacphcnanopjaaDoorTie.lean); close each card by the builder's one call (the guide's Derived/Test/ToyasCard.lean, 'card_holds'). Laid BY PROGRAM, IN A SANDBOX (cutbox-door.mjs). By AI agents, Wed Nov 11 2026. No macro, syntax, notation, axiom, sorry.
-/
import Derived.Test.YtjacphcnanopjaaDoorRows
import GoSem.ClaimSeven
namespace Go.Proofs.YtjacphcnanopjaaDoor
namespace Rows

/-- THE TIED CARD OF 'lariatlaw35.AtextTells'. -/
def atextTellsCard : Claim7 := { stood := { row := atextTellsRow, standIns := [], harness := (true, "6aaf6e02095faf4224909464d45065a8891039f1ff4e2c74a5a464cce91507ef"), looks := true }, kinds := [], alts := [], laidByText := true, laidKinds := [.data, .data, .data, .data, .sentinel, .sentinel, .pinned], laidTests := true, laidLooks := .later }
def AtextTellsCardSaid : Prop := Claim7.holds Tryd.pinned (.plain (OpenSpec.ofChange atextTellsSpec)) atextTellsCard

/-- THE TIED CARD OF 'lariatlaw35.AtextReads'. -/
def atextReadsCard : Claim7 := { stood := { row := atextReadsRow, standIns := [], harness := (true, "6aaf6e02095faf4224909464d45065a8891039f1ff4e2c74a5a464cce91507ef"), looks := true }, kinds := [], alts := [], laidByText := true, laidKinds := [.data, .data, .data, .data, .sentinel, .sentinel, .pinned], laidTests := true, laidLooks := .later }
def AtextReadsCardSaid : Prop := Claim7.holds Tryd.pinned (.plain (OpenSpec.ofChange atextReadsSpec)) atextReadsCard

/-- THE TIED CARD OF 'lariatlaw35.AtextBack'. -/
def atextBackCard : Claim7 := { stood := { row := atextBackRow, standIns := [], harness := (true, "6aaf6e02095faf4224909464d45065a8891039f1ff4e2c74a5a464cce91507ef"), looks := true }, kinds := [], alts := [], laidByText := true, laidKinds := [.data, .data, .data, .data, .sentinel, .sentinel, .pinned], laidTests := true, laidLooks := .later }
def AtextBackCardSaid : Prop := Claim7.holds Tryd.pinned (.plain (OpenSpec.ofChange atextBackSpec)) atextBackCard

/-- THE TIED CARD OF 'lariatlaw35.AtextOnce'. -/
def atextOnceCard : Claim7 := { stood := { row := atextOnceRow, standIns := [], harness := (true, "6aaf6e02095faf4224909464d45065a8891039f1ff4e2c74a5a464cce91507ef"), looks := true }, kinds := [], alts := [], laidByText := true, laidKinds := [.data, .data, .data, .data, .sentinel, .sentinel, .pinned], laidTests := true, laidLooks := .later }
def AtextOnceCardSaid : Prop := Claim7.holds Tryd.pinned (.plain (OpenSpec.ofChange atextOnceSpec)) atextOnceCard

/-- THE TIED CARD OF 'lariatlaw35.AtextUnlike'. -/
def atextUnlikeCard : Claim7 := { stood := { row := atextUnlikeRow, standIns := [], harness := (true, "6aaf6e02095faf4224909464d45065a8891039f1ff4e2c74a5a464cce91507ef"), looks := true }, kinds := [], alts := [], laidByText := true, laidKinds := [.data, .data, .data, .data, .sentinel, .sentinel, .pinned], laidTests := true, laidLooks := .later }
def AtextUnlikeCardSaid : Prop := Claim7.holds Tryd.pinned (.plain (OpenSpec.ofChange atextUnlikeSpec)) atextUnlikeCard

/-- THE SECOND FORM's CARD OF 'lariatlaw35.AtextTells'. -/
def atextTellsUptoCard : Claim7 := { stood := { row := atextTellsUptoRow, standIns := [], harness := (true, "6aaf6e02095faf4224909464d45065a8891039f1ff4e2c74a5a464cce91507ef"), looks := true }, kinds := [], alts := [], laidByText := true, laidKinds := [.data, .data, .data, .data, .sentinel, .sentinel, .pinned], laidTests := true, laidLooks := .later }
def AtextTellsUptoCardSaid : Prop := Claim7.holds Tryd.pinned (.plain (OpenSpec.upto atextTellsSpec)) atextTellsUptoCard

/-- THE SECOND FORM's CARD OF 'lariatlaw35.AtextReads'. -/
def atextReadsUptoCard : Claim7 := { stood := { row := atextReadsUptoRow, standIns := [], harness := (true, "6aaf6e02095faf4224909464d45065a8891039f1ff4e2c74a5a464cce91507ef"), looks := true }, kinds := [], alts := [], laidByText := true, laidKinds := [.data, .data, .data, .data, .sentinel, .sentinel, .pinned], laidTests := true, laidLooks := .later }
def AtextReadsUptoCardSaid : Prop := Claim7.holds Tryd.pinned (.plain (OpenSpec.upto atextReadsSpec)) atextReadsUptoCard

/-- THE SECOND FORM's CARD OF 'lariatlaw35.AtextBack'. -/
def atextBackUptoCard : Claim7 := { stood := { row := atextBackUptoRow, standIns := [], harness := (true, "6aaf6e02095faf4224909464d45065a8891039f1ff4e2c74a5a464cce91507ef"), looks := true }, kinds := [], alts := [], laidByText := true, laidKinds := [.data, .data, .data, .data, .sentinel, .sentinel, .pinned], laidTests := true, laidLooks := .later }
def AtextBackUptoCardSaid : Prop := Claim7.holds Tryd.pinned (.plain (OpenSpec.upto atextBackSpec)) atextBackUptoCard

/-- THE SECOND FORM's CARD OF 'lariatlaw35.AtextOnce'. -/
def atextOnceUptoCard : Claim7 := { stood := { row := atextOnceUptoRow, standIns := [], harness := (true, "6aaf6e02095faf4224909464d45065a8891039f1ff4e2c74a5a464cce91507ef"), looks := true }, kinds := [], alts := [], laidByText := true, laidKinds := [.data, .data, .data, .data, .sentinel, .sentinel, .pinned], laidTests := true, laidLooks := .later }
def AtextOnceUptoCardSaid : Prop := Claim7.holds Tryd.pinned (.plain (OpenSpec.upto atextOnceSpec)) atextOnceUptoCard

/-- THE SECOND FORM's CARD OF 'lariatlaw35.AtextUnlike'. -/
def atextUnlikeUptoCard : Claim7 := { stood := { row := atextUnlikeUptoRow, standIns := [], harness := (true, "6aaf6e02095faf4224909464d45065a8891039f1ff4e2c74a5a464cce91507ef"), looks := true }, kinds := [], alts := [], laidByText := true, laidKinds := [.data, .data, .data, .data, .sentinel, .sentinel, .pinned], laidTests := true, laidLooks := .later }
def AtextUnlikeUptoCardSaid : Prop := Claim7.holds Tryd.pinned (.plain (OpenSpec.upto atextUnlikeSpec)) atextUnlikeUptoCard
end Rows
end Go.Proofs.YtjacphcnanopjaaDoor
