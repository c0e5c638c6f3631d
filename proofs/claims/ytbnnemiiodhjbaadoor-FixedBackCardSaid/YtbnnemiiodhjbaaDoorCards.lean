/-
  DERIVED. GIVEN WITH THE SEED: THE CARDS: each row of YtbnnemiiodhjbaaDoorRows.lean that lists a variable, with what it lists TIED to the program's text (the seventh form; the later family's looks); each row that meets fmt, with fmt's text TOLD by the authors' own Lean function (tested against real Go, not proved from fmt's source: count such statements apart). THE CARD IS WHAT COUNTS. Prove the row's statement (the work); the ties are given (YtbnnemiiodhjbaaDoorTie.lean); close each card by the builder's one call (the guide's Derived/Test/ToyasCard.lean, 'card_holds'). Laid BY PROGRAM, IN A SANDBOX (cutbox-door.mjs). By AI agents, Wed Nov 11 2026. No macro, syntax, notation, axiom, sorry.
-/
import Derived.Test.YtbnnemiiodhjbaaDoorRows
import GoSem.ClaimSeven
namespace Go.Proofs.YtbnnemiiodhjbaaDoor
namespace Rows

/-- THE TIED CARD OF 'foyerlaw01.FixedLays'. -/
def fixedLaysCard : Claim7 := { stood := { row := fixedLaysRow, standIns := [], harness := (true, "3e765f05494f7e49d926f208fdeec1931d58a1ebb505951ab1a8a10b4198d535"), looks := true }, kinds := [], alts := [], laidByText := true, laidKinds := [.handle], laidTests := true, laidLooks := .later }
def FixedLaysCardSaid : Prop := Claim7.holds Tryd.pinned (.plain (OpenSpec.ofChange fixedLaysSpec)) fixedLaysCard

/-- THE TIED CARD OF 'foyerlaw01.FixedOrder'. -/
def fixedOrderCard : Claim7 := { stood := { row := fixedOrderRow, standIns := [], harness := (true, "3e765f05494f7e49d926f208fdeec1931d58a1ebb505951ab1a8a10b4198d535"), looks := true }, kinds := [], alts := [], laidByText := true, laidKinds := [.handle], laidTests := true, laidLooks := .later }
def FixedOrderCardSaid : Prop := Claim7.holds Tryd.pinned (.plain (OpenSpec.ofChange fixedOrderSpec)) fixedOrderCard

/-- THE TIED CARD OF 'foyerlaw01.FixedKnown'. -/
def fixedKnownCard : Claim7 := { stood := { row := fixedKnownRow, standIns := [], harness := (true, "3e765f05494f7e49d926f208fdeec1931d58a1ebb505951ab1a8a10b4198d535"), looks := true }, kinds := [], alts := [], laidByText := true, laidKinds := [.handle], laidTests := true, laidLooks := .later }
def FixedKnownCardSaid : Prop := Claim7.holds Tryd.pinned (.plain (OpenSpec.ofChange fixedKnownSpec)) fixedKnownCard

/-- THE TIED CARD OF 'foyerlaw01.FixedReads'. -/
def fixedReadsCard : Claim7 := { stood := { row := fixedReadsRow, standIns := [], harness := (true, "3e765f05494f7e49d926f208fdeec1931d58a1ebb505951ab1a8a10b4198d535"), looks := true }, kinds := [], alts := [], laidByText := true, laidKinds := [.handle], laidTests := true, laidLooks := .later }
def FixedReadsCardSaid : Prop := Claim7.holds Tryd.pinned (.plain (OpenSpec.ofChange fixedReadsSpec)) fixedReadsCard

/-- THE TIED CARD OF 'foyerlaw01.FixedBack'. -/
def fixedBackCard : Claim7 := { stood := { row := fixedBackRow, standIns := [], harness := (true, "3e765f05494f7e49d926f208fdeec1931d58a1ebb505951ab1a8a10b4198d535"), looks := true }, kinds := [], alts := [], laidByText := true, laidKinds := [.handle], laidTests := true, laidLooks := .later }
def FixedBackCardSaid : Prop := Claim7.holds Tryd.pinned (.plain (OpenSpec.ofChange fixedBackSpec)) fixedBackCard

/-- THE SECOND FORM's CARD OF 'foyerlaw01.FixedLays'. -/
def fixedLaysUptoCard : Claim7 := { stood := { row := fixedLaysUptoRow, standIns := [], harness := (true, "3e765f05494f7e49d926f208fdeec1931d58a1ebb505951ab1a8a10b4198d535"), looks := true }, kinds := [], alts := [], laidByText := true, laidKinds := [.handle], laidTests := true, laidLooks := .later }
def FixedLaysUptoCardSaid : Prop := Claim7.holds Tryd.pinned (.plain (OpenSpec.upto fixedLaysSpec)) fixedLaysUptoCard

/-- THE SECOND FORM's CARD OF 'foyerlaw01.FixedOrder'. -/
def fixedOrderUptoCard : Claim7 := { stood := { row := fixedOrderUptoRow, standIns := [], harness := (true, "3e765f05494f7e49d926f208fdeec1931d58a1ebb505951ab1a8a10b4198d535"), looks := true }, kinds := [], alts := [], laidByText := true, laidKinds := [.handle], laidTests := true, laidLooks := .later }
def FixedOrderUptoCardSaid : Prop := Claim7.holds Tryd.pinned (.plain (OpenSpec.upto fixedOrderSpec)) fixedOrderUptoCard

/-- THE SECOND FORM's CARD OF 'foyerlaw01.FixedKnown'. -/
def fixedKnownUptoCard : Claim7 := { stood := { row := fixedKnownUptoRow, standIns := [], harness := (true, "3e765f05494f7e49d926f208fdeec1931d58a1ebb505951ab1a8a10b4198d535"), looks := true }, kinds := [], alts := [], laidByText := true, laidKinds := [.handle], laidTests := true, laidLooks := .later }
def FixedKnownUptoCardSaid : Prop := Claim7.holds Tryd.pinned (.plain (OpenSpec.upto fixedKnownSpec)) fixedKnownUptoCard

/-- THE SECOND FORM's CARD OF 'foyerlaw01.FixedReads'. -/
def fixedReadsUptoCard : Claim7 := { stood := { row := fixedReadsUptoRow, standIns := [], harness := (true, "3e765f05494f7e49d926f208fdeec1931d58a1ebb505951ab1a8a10b4198d535"), looks := true }, kinds := [], alts := [], laidByText := true, laidKinds := [.handle], laidTests := true, laidLooks := .later }
def FixedReadsUptoCardSaid : Prop := Claim7.holds Tryd.pinned (.plain (OpenSpec.upto fixedReadsSpec)) fixedReadsUptoCard

/-- THE SECOND FORM's CARD OF 'foyerlaw01.FixedBack'. -/
def fixedBackUptoCard : Claim7 := { stood := { row := fixedBackUptoRow, standIns := [], harness := (true, "3e765f05494f7e49d926f208fdeec1931d58a1ebb505951ab1a8a10b4198d535"), looks := true }, kinds := [], alts := [], laidByText := true, laidKinds := [.handle], laidTests := true, laidLooks := .later }
def FixedBackUptoCardSaid : Prop := Claim7.holds Tryd.pinned (.plain (OpenSpec.upto fixedBackSpec)) fixedBackUptoCard
end Rows
end Go.Proofs.YtbnnemiiodhjbaaDoor
