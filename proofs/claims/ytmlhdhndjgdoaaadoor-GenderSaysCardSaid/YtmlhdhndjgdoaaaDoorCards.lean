/-
  DERIVED. GIVEN WITH THE SEED: THE CARDS: each row of YtmlhdhndjgdoaaaDoorRows.lean that lists a variable, with what it lists TIED to the program's text (the seventh form; the later family's looks); each row that meets fmt, with fmt's text TOLD by the authors' own Lean function (tested against real Go, not proved from fmt's source: count such statements apart). THE CARD IS WHAT COUNTS. Prove the row's statement (the work); the ties are given (YtmlhdhndjgdoaaaDoorTie.lean); close each card by the builder's one call (the guide's Derived/Test/ToyasCard.lean, 'card_holds'). Laid BY PROGRAM, IN A SANDBOX (cutbox-door.mjs). By AI agents, Wed Nov 11 2026. No macro, syntax, notation, axiom, sorry.
-/
import Derived.Test.YtmlhdhndjgdoaaaDoorRows
import GoSem.ClaimSeven
namespace Go.Proofs.YtmlhdhndjgdoaaaDoor
namespace Rows

/-- THE TIED CARD OF 'cubitlaw23.GenderSays'. -/
def genderSaysCard : Claim7 := { stood := { row := genderSaysRow, standIns := [], harness := (true, "3f46dffe292ba857fce090aa72d5a6219d30129c01ff7e0202cd6dc643a4e72b"), looks := false }, kinds := [], alts := [], laidByText := true, laidKinds := [.data, .data, .data, .data, .pinned], laidTests := true, laidLooks := .later }
def GenderSaysCardSaid : Prop := Claim7.holds Tryd.pinned (.plain (OpenSpec.ofChange genderSaysSpec)) genderSaysCard

/-- THE SECOND FORM's CARD OF 'cubitlaw23.GenderSays'. -/
def genderSaysUptoCard : Claim7 := { stood := { row := genderSaysUptoRow, standIns := [], harness := (true, "3f46dffe292ba857fce090aa72d5a6219d30129c01ff7e0202cd6dc643a4e72b"), looks := false }, kinds := [], alts := [], laidByText := true, laidKinds := [.data, .data, .data, .data, .pinned], laidTests := true, laidLooks := .later }
def GenderSaysUptoCardSaid : Prop := Claim7.holds Tryd.pinned (.plain (OpenSpec.upto genderSaysSpec)) genderSaysUptoCard
end Rows
end Go.Proofs.YtmlhdhndjgdoaaaDoor
