/-
  DERIVED. GIVEN WITH THE SEED: THE CARDS: each row of YtmlhdhndjgdoaaaGreatDoorRows.lean that lists a variable, with what it lists TIED to the program's text (the seventh form; the later family's looks); each row that meets fmt, with fmt's text TOLD by the authors' own Lean function (tested against real Go, not proved from fmt's source: count such statements apart). THE CARD IS WHAT COUNTS. Prove the row's statement (the work); the ties are given (YtmlhdhndjgdoaaaGreatDoorTie.lean); close each card by the builder's one call (the guide's Derived/Test/ToyasCard.lean, 'card_holds'). Laid BY PROGRAM, IN A SANDBOX (cutbox-door.mjs). By AI agents, Wed Nov 11 2026. No macro, syntax, notation, axiom, sorry.
-/
import Derived.Test.YtmlhdhndjgdoaaaGreatDoorRows
import GoSem.ClaimSeven
namespace Go.Proofs.YtmlhdhndjgdoaaaGreatDoor
namespace Rows

/-- THE TIED CARD OF 'cubitlaw24.ComposeNames'. -/
def composeNamesCard : Claim7 := { stood := { row := composeNamesRow, standIns := [], harness := (true, "aa2048c4e1104d7bd300ce3d1448afb2e71c89958dd127b884828b89b1807f18"), looks := true }, kinds := [], alts := [], laidByText := true, laidKinds := [.data, .data, .data, .data, .sentinel, .sentinel, .pinned], laidTests := true, laidLooks := .later }
def ComposeNamesCardSaid : Prop := Claim7.holds Tryz.pinned (.plain (OpenSpec.ofChange composeNamesSpec)) composeNamesCard

/-- THE TIED CARD OF 'cubitlaw24.ComposeKnown'. -/
def composeKnownCard : Claim7 := { stood := { row := composeKnownRow, standIns := [], harness := (true, "aa2048c4e1104d7bd300ce3d1448afb2e71c89958dd127b884828b89b1807f18"), looks := true }, kinds := [], alts := [], laidByText := true, laidKinds := [.data, .data, .data, .data, .sentinel, .sentinel, .pinned], laidTests := true, laidLooks := .later }
def ComposeKnownCardSaid : Prop := Claim7.holds Tryz.pinned (.plain (OpenSpec.ofChange composeKnownSpec)) composeKnownCard

/-- THE TIED CARD OF 'cubitlaw24.ComposeOne'. -/
def composeOneCard : Claim7 := { stood := { row := composeOneRow, standIns := [], harness := (true, "aa2048c4e1104d7bd300ce3d1448afb2e71c89958dd127b884828b89b1807f18"), looks := true }, kinds := [], alts := [], laidByText := true, laidKinds := [.data, .data, .data, .data, .sentinel, .sentinel, .pinned], laidTests := true, laidLooks := .later }
def ComposeOneCardSaid : Prop := Claim7.holds Tryz.pinned (.plain (OpenSpec.ofChange composeOneSpec)) composeOneCard

/-- THE SECOND FORM's CARD OF 'cubitlaw24.ComposeNames'. -/
def composeNamesUptoCard : Claim7 := { stood := { row := composeNamesUptoRow, standIns := [], harness := (true, "aa2048c4e1104d7bd300ce3d1448afb2e71c89958dd127b884828b89b1807f18"), looks := true }, kinds := [], alts := [], laidByText := true, laidKinds := [.data, .data, .data, .data, .sentinel, .sentinel, .pinned], laidTests := true, laidLooks := .later }
def ComposeNamesUptoCardSaid : Prop := Claim7.holds Tryz.pinned (.plain (OpenSpec.upto composeNamesSpec)) composeNamesUptoCard

/-- THE SECOND FORM's CARD OF 'cubitlaw24.ComposeKnown'. -/
def composeKnownUptoCard : Claim7 := { stood := { row := composeKnownUptoRow, standIns := [], harness := (true, "aa2048c4e1104d7bd300ce3d1448afb2e71c89958dd127b884828b89b1807f18"), looks := true }, kinds := [], alts := [], laidByText := true, laidKinds := [.data, .data, .data, .data, .sentinel, .sentinel, .pinned], laidTests := true, laidLooks := .later }
def ComposeKnownUptoCardSaid : Prop := Claim7.holds Tryz.pinned (.plain (OpenSpec.upto composeKnownSpec)) composeKnownUptoCard

/-- THE SECOND FORM's CARD OF 'cubitlaw24.ComposeOne'. -/
def composeOneUptoCard : Claim7 := { stood := { row := composeOneUptoRow, standIns := [], harness := (true, "aa2048c4e1104d7bd300ce3d1448afb2e71c89958dd127b884828b89b1807f18"), looks := true }, kinds := [], alts := [], laidByText := true, laidKinds := [.data, .data, .data, .data, .sentinel, .sentinel, .pinned], laidTests := true, laidLooks := .later }
def ComposeOneUptoCardSaid : Prop := Claim7.holds Tryz.pinned (.plain (OpenSpec.upto composeOneSpec)) composeOneUptoCard
end Rows
end Go.Proofs.YtmlhdhndjgdoaaaGreatDoor
