/-
  DERIVED. GIVEN WITH THE SEED: THE CARDS: each row of YtemngdhbicndlaaDoorRows.lean that lists a variable, with what it lists TIED to the program's text (the seventh form; the later family's looks); each row that meets fmt, with fmt's text TOLD by the authors' own Lean function (tested against real Go, not proved from fmt's source: count such statements apart). THE CARD IS WHAT COUNTS. Prove the row's statement (the work); the ties are given (YtemngdhbicndlaaDoorTie.lean); close each card by the builder's one call (the guide's Derived/Test/ToyasCard.lean, 'card_holds'). Laid BY PROGRAM, IN A SANDBOX (cutbox-door.mjs). By AI agents, Wed Nov 11 2026. No macro, syntax, notation, axiom, sorry.
-/
import Derived.Test.YtemngdhbicndlaaDoorRows
import GoSem.ClaimSeven
namespace Go.Proofs.YtemngdhbicndlaaDoor
namespace Rows

/-- THE TIED CARD OF 'foyerlaw02.VaryReads'. -/
def varyReadsCard : Claim7 := { stood := { row := varyReadsRow, standIns := [], harness := (true, "8195fab7aad46f8f08b607b437263894b2fa85d7789166e156db93835125932a"), looks := true }, kinds := [], alts := [], laidByText := true, laidKinds := [.handle], laidTests := true, laidLooks := .later }
def VaryReadsCardSaid : Prop := Claim7.holds Tryd.pinned (.plain (OpenSpec.ofChange varyReadsSpec)) varyReadsCard

/-- THE TIED CARD OF 'foyerlaw02.VaryBack'. -/
def varyBackCard : Claim7 := { stood := { row := varyBackRow, standIns := [], harness := (true, "8195fab7aad46f8f08b607b437263894b2fa85d7789166e156db93835125932a"), looks := true }, kinds := [], alts := [], laidByText := true, laidKinds := [.handle], laidTests := true, laidLooks := .later }
def VaryBackCardSaid : Prop := Claim7.holds Tryd.pinned (.plain (OpenSpec.ofChange varyBackSpec)) varyBackCard

/-- THE TIED CARD OF 'foyerlaw02.VaryOn'. -/
def varyOnCard : Claim7 := { stood := { row := varyOnRow, standIns := [], harness := (true, "8195fab7aad46f8f08b607b437263894b2fa85d7789166e156db93835125932a"), looks := true }, kinds := [], alts := [], laidByText := true, laidKinds := [.handle], laidTests := true, laidLooks := .later }
def VaryOnCardSaid : Prop := Claim7.holds Tryd.pinned (.plain (OpenSpec.ofChange varyOnSpec)) varyOnCard

/-- THE TIED CARD OF 'foyerlaw02.VaryPuts'. -/
def varyPutsCard : Claim7 := { stood := { row := varyPutsRow, standIns := [], harness := (true, "8195fab7aad46f8f08b607b437263894b2fa85d7789166e156db93835125932a"), looks := true }, kinds := [], alts := [], laidByText := true, laidKinds := [.handle], laidTests := true, laidLooks := .later }
def VaryPutsCardSaid : Prop := Claim7.holds Tryd.pinned (.plain (OpenSpec.ofChange varyPutsSpec)) varyPutsCard

/-- THE TIED CARD OF 'foyerlaw02.VaryKnown'. -/
def varyKnownCard : Claim7 := { stood := { row := varyKnownRow, standIns := [], harness := (true, "8195fab7aad46f8f08b607b437263894b2fa85d7789166e156db93835125932a"), looks := true }, kinds := [], alts := [], laidByText := true, laidKinds := [.handle], laidTests := true, laidLooks := .later }
def VaryKnownCardSaid : Prop := Claim7.holds Tryd.pinned (.plain (OpenSpec.ofChange varyKnownSpec)) varyKnownCard

/-- THE SECOND FORM's CARD OF 'foyerlaw02.VaryReads'. -/
def varyReadsUptoCard : Claim7 := { stood := { row := varyReadsUptoRow, standIns := [], harness := (true, "8195fab7aad46f8f08b607b437263894b2fa85d7789166e156db93835125932a"), looks := true }, kinds := [], alts := [], laidByText := true, laidKinds := [.handle], laidTests := true, laidLooks := .later }
def VaryReadsUptoCardSaid : Prop := Claim7.holds Tryd.pinned (.plain (OpenSpec.upto varyReadsSpec)) varyReadsUptoCard

/-- THE SECOND FORM's CARD OF 'foyerlaw02.VaryBack'. -/
def varyBackUptoCard : Claim7 := { stood := { row := varyBackUptoRow, standIns := [], harness := (true, "8195fab7aad46f8f08b607b437263894b2fa85d7789166e156db93835125932a"), looks := true }, kinds := [], alts := [], laidByText := true, laidKinds := [.handle], laidTests := true, laidLooks := .later }
def VaryBackUptoCardSaid : Prop := Claim7.holds Tryd.pinned (.plain (OpenSpec.upto varyBackSpec)) varyBackUptoCard

/-- THE SECOND FORM's CARD OF 'foyerlaw02.VaryOn'. -/
def varyOnUptoCard : Claim7 := { stood := { row := varyOnUptoRow, standIns := [], harness := (true, "8195fab7aad46f8f08b607b437263894b2fa85d7789166e156db93835125932a"), looks := true }, kinds := [], alts := [], laidByText := true, laidKinds := [.handle], laidTests := true, laidLooks := .later }
def VaryOnUptoCardSaid : Prop := Claim7.holds Tryd.pinned (.plain (OpenSpec.upto varyOnSpec)) varyOnUptoCard

/-- THE SECOND FORM's CARD OF 'foyerlaw02.VaryPuts'. -/
def varyPutsUptoCard : Claim7 := { stood := { row := varyPutsUptoRow, standIns := [], harness := (true, "8195fab7aad46f8f08b607b437263894b2fa85d7789166e156db93835125932a"), looks := true }, kinds := [], alts := [], laidByText := true, laidKinds := [.handle], laidTests := true, laidLooks := .later }
def VaryPutsUptoCardSaid : Prop := Claim7.holds Tryd.pinned (.plain (OpenSpec.upto varyPutsSpec)) varyPutsUptoCard

/-- THE SECOND FORM's CARD OF 'foyerlaw02.VaryKnown'. -/
def varyKnownUptoCard : Claim7 := { stood := { row := varyKnownUptoRow, standIns := [], harness := (true, "8195fab7aad46f8f08b607b437263894b2fa85d7789166e156db93835125932a"), looks := true }, kinds := [], alts := [], laidByText := true, laidKinds := [.handle], laidTests := true, laidLooks := .later }
def VaryKnownUptoCardSaid : Prop := Claim7.holds Tryd.pinned (.plain (OpenSpec.upto varyKnownSpec)) varyKnownUptoCard
end Rows
end Go.Proofs.YtemngdhbicndlaaDoor
