/-
  DERIVED. GIVEN WITH THE SEED: THE CARDS: each row of YtiniebodbanmnaaDoorRows.lean that lists a variable, with what it lists TIED to the program's text (the seventh form; the later family's looks); each row that meets fmt, with fmt's text TOLD by the authors' own Lean function (tested against real Go, not proved from fmt's source: count such statements apart). THE CARD IS WHAT COUNTS. Prove the row's statement (the work); the ties are given (YtiniebodbanmnaaDoorTie.lean); close each card by the builder's one call (the guide's Derived/Test/ToyasCard.lean, 'card_holds'). Laid BY PROGRAM, IN A SANDBOX (cutbox-door.mjs). By AI agents, Wed Nov 11 2026. No macro, syntax, notation, axiom, sorry.
-/
import Derived.Test.YtiniebodbanmnaaDoorRows
import GoSem.ClaimSeven
namespace Go.Proofs.YtiniebodbanmnaaDoor
namespace Rows

/-- THE TIED CARD OF 'cubitlaw14.LocaleKnown'. -/
def localeKnownCard : Claim7 := { stood := { row := localeKnownRow, standIns := [], harness := (true, "8d45c08410edf2a5da2f047330498ace510d6baf7b4410180e2a00eee551b25d"), looks := false }, kinds := [], alts := [], laidByText := true, laidKinds := [.data, .pinned, .pinned], laidTests := true, laidLooks := .later }
def LocaleKnownCardSaid : Prop := Claim7.holds Tryd.pinned (.plain (OpenSpec.ofChange localeKnownSpec)) localeKnownCard

/-- THE TIED CARD OF 'cubitlaw14.LocaleBack'. -/
def localeBackCard : Claim7 := { stood := { row := localeBackRow, standIns := [], harness := (true, "8d45c08410edf2a5da2f047330498ace510d6baf7b4410180e2a00eee551b25d"), looks := false }, kinds := [], alts := [], laidByText := true, laidKinds := [.data, .pinned, .pinned], laidTests := true, laidLooks := .later }
def LocaleBackCardSaid : Prop := Claim7.holds Tryd.pinned (.plain (OpenSpec.ofChange localeBackSpec)) localeBackCard

/-- THE TIED CARD OF 'cubitlaw14.LocaleKeys'. -/
def localeKeysCard : Claim7 := { stood := { row := localeKeysRow, standIns := [], harness := (true, "8d45c08410edf2a5da2f047330498ace510d6baf7b4410180e2a00eee551b25d"), looks := false }, kinds := [], alts := [], laidByText := true, laidKinds := [.data, .pinned, .pinned], laidTests := true, laidLooks := .later }
def LocaleKeysCardSaid : Prop := Claim7.holds Tryd.pinned (.plain (OpenSpec.ofChange localeKeysSpec)) localeKeysCard

/-- THE SECOND FORM's CARD OF 'cubitlaw14.LocaleKnown'. -/
def localeKnownUptoCard : Claim7 := { stood := { row := localeKnownUptoRow, standIns := [], harness := (true, "8d45c08410edf2a5da2f047330498ace510d6baf7b4410180e2a00eee551b25d"), looks := false }, kinds := [], alts := [], laidByText := true, laidKinds := [.data, .pinned, .pinned], laidTests := true, laidLooks := .later }
def LocaleKnownUptoCardSaid : Prop := Claim7.holds Tryd.pinned (.plain (OpenSpec.upto localeKnownSpec)) localeKnownUptoCard

/-- THE SECOND FORM's CARD OF 'cubitlaw14.LocaleBack'. -/
def localeBackUptoCard : Claim7 := { stood := { row := localeBackUptoRow, standIns := [], harness := (true, "8d45c08410edf2a5da2f047330498ace510d6baf7b4410180e2a00eee551b25d"), looks := false }, kinds := [], alts := [], laidByText := true, laidKinds := [.data, .pinned, .pinned], laidTests := true, laidLooks := .later }
def LocaleBackUptoCardSaid : Prop := Claim7.holds Tryd.pinned (.plain (OpenSpec.upto localeBackSpec)) localeBackUptoCard

/-- THE SECOND FORM's CARD OF 'cubitlaw14.LocaleKeys'. -/
def localeKeysUptoCard : Claim7 := { stood := { row := localeKeysUptoRow, standIns := [], harness := (true, "8d45c08410edf2a5da2f047330498ace510d6baf7b4410180e2a00eee551b25d"), looks := false }, kinds := [], alts := [], laidByText := true, laidKinds := [.data, .pinned, .pinned], laidTests := true, laidLooks := .later }
def LocaleKeysUptoCardSaid : Prop := Claim7.holds Tryd.pinned (.plain (OpenSpec.upto localeKeysSpec)) localeKeysUptoCard
end Rows
end Go.Proofs.YtiniebodbanmnaaDoor
