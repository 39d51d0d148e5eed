/-
  DERIVED. GIVEN WITH THE SEED: THE CARDS: each row of YtbppinniokmdnaaDoorRows.lean that lists a variable, with what it lists TIED to the program's text (the seventh form; the later family's looks); each row that meets fmt, with fmt's text TOLD by the authors' own Lean function (tested against real Go, not proved from fmt's source: count such statements apart). THE CARD IS WHAT COUNTS. Prove the row's statement (the work); the ties are given (YtbppinniokmdnaaDoorTie.lean); close each card by the builder's one call (the guide's Derived/Test/ToyasCard.lean, 'card_holds'). Laid BY PROGRAM, IN A SANDBOX (cutbox-door.mjs). By AI agents, Wed Nov 11 2026. No macro, syntax, notation, axiom, sorry.
-/
import Derived.Test.YtbppinniokmdnaaDoorRows
import GoSem.ClaimSeven
namespace Go.Proofs.YtbppinniokmdnaaDoor
namespace Rows

/-- THE TIED CARD OF 'cubitlaw23.GenderName'. -/
def genderNameCard : Claim7 := { stood := { row := genderNameRow, standIns := [], harness := (true, "a9e84b85c4f9dd7fca0010111cd919defde976f0dc6db0ce1891874e21ad02ec"), looks := false }, kinds := [], alts := [], laidByText := true, laidKinds := [.data, .pinned], laidTests := true, laidLooks := .later }
def GenderNameCardSaid : Prop := Claim7.holds Tryd.pinned (.plain (OpenSpec.ofChange genderNameSpec)) genderNameCard

/-- THE TIED CARD OF 'cubitlaw23.GenderKnown'. -/
def genderKnownCard : Claim7 := { stood := { row := genderKnownRow, standIns := [], harness := (true, "a9e84b85c4f9dd7fca0010111cd919defde976f0dc6db0ce1891874e21ad02ec"), looks := false }, kinds := [], alts := [], laidByText := true, laidKinds := [.data, .pinned], laidTests := true, laidLooks := .later }
def GenderKnownCardSaid : Prop := Claim7.holds Tryd.pinned (.plain (OpenSpec.ofChange genderKnownSpec)) genderKnownCard

/-- THE TIED CARD OF 'cubitlaw15.RegionChains'. -/
def regionChainsCard : Claim7 := { stood := { row := regionChainsRow, standIns := [], harness := (true, "a9e84b85c4f9dd7fca0010111cd919defde976f0dc6db0ce1891874e21ad02ec"), looks := false }, kinds := [], alts := [], laidByText := true, laidKinds := [.data, .pinned], laidTests := true, laidLooks := .later }
def RegionChainsCardSaid : Prop := Claim7.holds Tryd.pinned (.plain (OpenSpec.ofChange regionChainsSpec)) regionChainsCard

/-- THE TIED CARD OF 'cubitlaw15.RegionWithin'. -/
def regionWithinCard : Claim7 := { stood := { row := regionWithinRow, standIns := [], harness := (true, "a9e84b85c4f9dd7fca0010111cd919defde976f0dc6db0ce1891874e21ad02ec"), looks := false }, kinds := [], alts := [], laidByText := true, laidKinds := [.data, .pinned], laidTests := true, laidLooks := .later }
def RegionWithinCardSaid : Prop := Claim7.holds Tryd.pinned (.plain (OpenSpec.ofChange regionWithinSpec)) regionWithinCard

/-- THE TIED CARD OF 'cubitlaw15.RegionKnown'. -/
def regionKnownCard : Claim7 := { stood := { row := regionKnownRow, standIns := [], harness := (true, "a9e84b85c4f9dd7fca0010111cd919defde976f0dc6db0ce1891874e21ad02ec"), looks := false }, kinds := [], alts := [], laidByText := true, laidKinds := [.data, .pinned, .pinned], laidTests := true, laidLooks := .later }
def RegionKnownCardSaid : Prop := Claim7.holds Tryd.pinned (.plain (OpenSpec.ofChange regionKnownSpec)) regionKnownCard

/-- THE TIED CARD OF 'cubitlaw23.GenderSays'. -/
def genderSaysCard : Claim7 := { stood := { row := genderSaysRow, standIns := [], harness := (true, "a9e84b85c4f9dd7fca0010111cd919defde976f0dc6db0ce1891874e21ad02ec"), looks := false }, kinds := [], alts := [], laidByText := true, laidKinds := [.data, .data, .data, .data, .pinned], laidTests := true, laidLooks := .later }
def GenderSaysCardSaid : Prop := Claim7.holds Tryd.pinned (.plain (OpenSpec.ofChange genderSaysSpec)) genderSaysCard

/-- THE SECOND FORM's CARD OF 'cubitlaw23.GenderName'. -/
def genderNameUptoCard : Claim7 := { stood := { row := genderNameUptoRow, standIns := [], harness := (true, "a9e84b85c4f9dd7fca0010111cd919defde976f0dc6db0ce1891874e21ad02ec"), looks := false }, kinds := [], alts := [], laidByText := true, laidKinds := [.data, .pinned], laidTests := true, laidLooks := .later }
def GenderNameUptoCardSaid : Prop := Claim7.holds Tryd.pinned (.plain (OpenSpec.upto genderNameSpec)) genderNameUptoCard

/-- THE SECOND FORM's CARD OF 'cubitlaw23.GenderKnown'. -/
def genderKnownUptoCard : Claim7 := { stood := { row := genderKnownUptoRow, standIns := [], harness := (true, "a9e84b85c4f9dd7fca0010111cd919defde976f0dc6db0ce1891874e21ad02ec"), looks := false }, kinds := [], alts := [], laidByText := true, laidKinds := [.data, .pinned], laidTests := true, laidLooks := .later }
def GenderKnownUptoCardSaid : Prop := Claim7.holds Tryd.pinned (.plain (OpenSpec.upto genderKnownSpec)) genderKnownUptoCard

/-- THE SECOND FORM's CARD OF 'cubitlaw15.RegionChains'. -/
def regionChainsUptoCard : Claim7 := { stood := { row := regionChainsUptoRow, standIns := [], harness := (true, "a9e84b85c4f9dd7fca0010111cd919defde976f0dc6db0ce1891874e21ad02ec"), looks := false }, kinds := [], alts := [], laidByText := true, laidKinds := [.data, .pinned], laidTests := true, laidLooks := .later }
def RegionChainsUptoCardSaid : Prop := Claim7.holds Tryd.pinned (.plain (OpenSpec.upto regionChainsSpec)) regionChainsUptoCard

/-- THE SECOND FORM's CARD OF 'cubitlaw15.RegionWithin'. -/
def regionWithinUptoCard : Claim7 := { stood := { row := regionWithinUptoRow, standIns := [], harness := (true, "a9e84b85c4f9dd7fca0010111cd919defde976f0dc6db0ce1891874e21ad02ec"), looks := false }, kinds := [], alts := [], laidByText := true, laidKinds := [.data, .pinned], laidTests := true, laidLooks := .later }
def RegionWithinUptoCardSaid : Prop := Claim7.holds Tryd.pinned (.plain (OpenSpec.upto regionWithinSpec)) regionWithinUptoCard

/-- THE SECOND FORM's CARD OF 'cubitlaw15.RegionKnown'. -/
def regionKnownUptoCard : Claim7 := { stood := { row := regionKnownUptoRow, standIns := [], harness := (true, "a9e84b85c4f9dd7fca0010111cd919defde976f0dc6db0ce1891874e21ad02ec"), looks := false }, kinds := [], alts := [], laidByText := true, laidKinds := [.data, .pinned, .pinned], laidTests := true, laidLooks := .later }
def RegionKnownUptoCardSaid : Prop := Claim7.holds Tryd.pinned (.plain (OpenSpec.upto regionKnownSpec)) regionKnownUptoCard

/-- THE SECOND FORM's CARD OF 'cubitlaw23.GenderSays'. -/
def genderSaysUptoCard : Claim7 := { stood := { row := genderSaysUptoRow, standIns := [], harness := (true, "a9e84b85c4f9dd7fca0010111cd919defde976f0dc6db0ce1891874e21ad02ec"), looks := false }, kinds := [], alts := [], laidByText := true, laidKinds := [.data, .data, .data, .data, .pinned], laidTests := true, laidLooks := .later }
def GenderSaysUptoCardSaid : Prop := Claim7.holds Tryd.pinned (.plain (OpenSpec.upto genderSaysSpec)) genderSaysUptoCard
end Rows
end Go.Proofs.YtbppinniokmdnaaDoor
