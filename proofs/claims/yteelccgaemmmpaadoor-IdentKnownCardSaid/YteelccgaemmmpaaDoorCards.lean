/-
  DERIVED. GIVEN WITH THE SEED: THE CARDS: each row of YteelccgaemmmpaaDoorRows.lean that lists a variable, with what it lists TIED to the program's text (the seventh form; the later family's looks); each row that meets fmt, with fmt's text TOLD by the authors' own Lean function (tested against real Go, not proved from fmt's source: count such statements apart). THE CARD IS WHAT COUNTS. Prove the row's statement (the work); the ties are given (YteelccgaemmmpaaDoorTie.lean); close each card by the builder's one call (the guide's Derived/Test/ToyasCard.lean, 'card_holds'). Laid BY PROGRAM, IN A SANDBOX (cutbox-door.mjs). By AI agents, Wed Nov 11 2026. No macro, syntax, notation, axiom, sorry.
-/
import Derived.Test.YteelccgaemmmpaaDoorRows
import GoSem.ClaimSeven
namespace Go.Proofs.YteelccgaemmmpaaDoor
namespace Rows

/-- THE TIED CARD OF 'foyerlaw16.IdentNames'. -/
def identNamesCard : Claim7 := { stood := { row := identNamesRow, standIns := [], harness := (true, "c659ef1be2fcc77030a9a3b40b6ab88d9772d84abdacc05ed3d3a79aefcc5c94"), looks := false }, kinds := [], alts := [], laidByText := true, laidKinds := [.data, .widerDeep, .widerDeep, .pinned], laidTests := true, laidLooks := .later }
def IdentNamesCardSaid : Prop := Claim7.holds Tryd.pinned (.plain (OpenSpec.ofChange identNamesSpec)) identNamesCard

/-- THE TIED CARD OF 'foyerlaw16.IdentSeats'. -/
def identSeatsCard : Claim7 := { stood := { row := identSeatsRow, standIns := [], harness := (true, "c659ef1be2fcc77030a9a3b40b6ab88d9772d84abdacc05ed3d3a79aefcc5c94"), looks := false }, kinds := [], alts := [], laidByText := true, laidKinds := [.data, .widerDeep, .widerDeep, .pinned], laidTests := true, laidLooks := .later }
def IdentSeatsCardSaid : Prop := Claim7.holds Tryd.pinned (.plain (OpenSpec.ofChange identSeatsSpec)) identSeatsCard

/-- THE TIED CARD OF 'foyerlaw16.IdentBack'. -/
def identBackCard : Claim7 := { stood := { row := identBackRow, standIns := [], harness := (true, "c659ef1be2fcc77030a9a3b40b6ab88d9772d84abdacc05ed3d3a79aefcc5c94"), looks := false }, kinds := [], alts := [], laidByText := true, laidKinds := [.data, .widerDeep, .widerDeep, .pinned], laidTests := true, laidLooks := .later }
def IdentBackCardSaid : Prop := Claim7.holds Tryd.pinned (.plain (OpenSpec.ofChange identBackSpec)) identBackCard

/-- THE TIED CARD OF 'foyerlaw16.IdentOne'. -/
def identOneCard : Claim7 := { stood := { row := identOneRow, standIns := [], harness := (true, "c659ef1be2fcc77030a9a3b40b6ab88d9772d84abdacc05ed3d3a79aefcc5c94"), looks := false }, kinds := [], alts := [], laidByText := true, laidKinds := [.data, .widerDeep, .widerDeep, .pinned], laidTests := true, laidLooks := .later }
def IdentOneCardSaid : Prop := Claim7.holds Tryd.pinned (.plain (OpenSpec.ofChange identOneSpec)) identOneCard

/-- THE TIED CARD OF 'foyerlaw16.IdentParts'. -/
def identPartsCard : Claim7 := { stood := { row := identPartsRow, standIns := [], harness := (true, "c659ef1be2fcc77030a9a3b40b6ab88d9772d84abdacc05ed3d3a79aefcc5c94"), looks := false }, kinds := [], alts := [], laidByText := true, laidKinds := [.data, .widerDeep, .widerDeep, .pinned], laidTests := true, laidLooks := .later }
def IdentPartsCardSaid : Prop := Claim7.holds Tryd.pinned (.plain (OpenSpec.ofChange identPartsSpec)) identPartsCard

/-- THE TIED CARD OF 'foyerlaw16.IdentKnown'. -/
def identKnownCard : Claim7 := { stood := { row := identKnownRow, standIns := [], harness := (true, "c659ef1be2fcc77030a9a3b40b6ab88d9772d84abdacc05ed3d3a79aefcc5c94"), looks := false }, kinds := [], alts := [], laidByText := true, laidKinds := [.data, .widerDeep, .widerDeep, .pinned], laidTests := true, laidLooks := .later }
def IdentKnownCardSaid : Prop := Claim7.holds Tryd.pinned (.plain (OpenSpec.ofChange identKnownSpec)) identKnownCard

/-- THE SECOND FORM's CARD OF 'foyerlaw16.IdentNames'. -/
def identNamesUptoCard : Claim7 := { stood := { row := identNamesUptoRow, standIns := [], harness := (true, "c659ef1be2fcc77030a9a3b40b6ab88d9772d84abdacc05ed3d3a79aefcc5c94"), looks := false }, kinds := [], alts := [], laidByText := true, laidKinds := [.data, .widerDeep, .widerDeep, .pinned], laidTests := true, laidLooks := .later }
def IdentNamesUptoCardSaid : Prop := Claim7.holds Tryd.pinned (.plain (OpenSpec.upto identNamesSpec)) identNamesUptoCard

/-- THE SECOND FORM's CARD OF 'foyerlaw16.IdentSeats'. -/
def identSeatsUptoCard : Claim7 := { stood := { row := identSeatsUptoRow, standIns := [], harness := (true, "c659ef1be2fcc77030a9a3b40b6ab88d9772d84abdacc05ed3d3a79aefcc5c94"), looks := false }, kinds := [], alts := [], laidByText := true, laidKinds := [.data, .widerDeep, .widerDeep, .pinned], laidTests := true, laidLooks := .later }
def IdentSeatsUptoCardSaid : Prop := Claim7.holds Tryd.pinned (.plain (OpenSpec.upto identSeatsSpec)) identSeatsUptoCard

/-- THE SECOND FORM's CARD OF 'foyerlaw16.IdentBack'. -/
def identBackUptoCard : Claim7 := { stood := { row := identBackUptoRow, standIns := [], harness := (true, "c659ef1be2fcc77030a9a3b40b6ab88d9772d84abdacc05ed3d3a79aefcc5c94"), looks := false }, kinds := [], alts := [], laidByText := true, laidKinds := [.data, .widerDeep, .widerDeep, .pinned], laidTests := true, laidLooks := .later }
def IdentBackUptoCardSaid : Prop := Claim7.holds Tryd.pinned (.plain (OpenSpec.upto identBackSpec)) identBackUptoCard

/-- THE SECOND FORM's CARD OF 'foyerlaw16.IdentOne'. -/
def identOneUptoCard : Claim7 := { stood := { row := identOneUptoRow, standIns := [], harness := (true, "c659ef1be2fcc77030a9a3b40b6ab88d9772d84abdacc05ed3d3a79aefcc5c94"), looks := false }, kinds := [], alts := [], laidByText := true, laidKinds := [.data, .widerDeep, .widerDeep, .pinned], laidTests := true, laidLooks := .later }
def IdentOneUptoCardSaid : Prop := Claim7.holds Tryd.pinned (.plain (OpenSpec.upto identOneSpec)) identOneUptoCard

/-- THE SECOND FORM's CARD OF 'foyerlaw16.IdentParts'. -/
def identPartsUptoCard : Claim7 := { stood := { row := identPartsUptoRow, standIns := [], harness := (true, "c659ef1be2fcc77030a9a3b40b6ab88d9772d84abdacc05ed3d3a79aefcc5c94"), looks := false }, kinds := [], alts := [], laidByText := true, laidKinds := [.data, .widerDeep, .widerDeep, .pinned], laidTests := true, laidLooks := .later }
def IdentPartsUptoCardSaid : Prop := Claim7.holds Tryd.pinned (.plain (OpenSpec.upto identPartsSpec)) identPartsUptoCard

/-- THE SECOND FORM's CARD OF 'foyerlaw16.IdentKnown'. -/
def identKnownUptoCard : Claim7 := { stood := { row := identKnownUptoRow, standIns := [], harness := (true, "c659ef1be2fcc77030a9a3b40b6ab88d9772d84abdacc05ed3d3a79aefcc5c94"), looks := false }, kinds := [], alts := [], laidByText := true, laidKinds := [.data, .widerDeep, .widerDeep, .pinned], laidTests := true, laidLooks := .later }
def IdentKnownUptoCardSaid : Prop := Claim7.holds Tryd.pinned (.plain (OpenSpec.upto identKnownSpec)) identKnownUptoCard
end Rows
end Go.Proofs.YteelccgaemmmpaaDoor
