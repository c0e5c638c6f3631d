/-
  DERIVED. GIVEN WITH THE SEED: THE CARDS: each row of YtpbfabcihoiiiaaDoorRows.lean that lists a variable, with what it lists TIED to the program's text (the seventh form; the later family's looks); each row that meets fmt, with fmt's text TOLD by the authors' own Lean function (tested against real Go, not proved from fmt's source: count such statements apart). THE CARD IS WHAT COUNTS. Prove the row's statement (the work); the ties are given (YtpbfabcihoiiiaaDoorTie.lean); close each card by the builder's one call (the guide's Derived/Test/ToyasCard.lean, 'card_holds'). Laid BY PROGRAM, IN A SANDBOX (cutbox-door.mjs). By AI agents, Wed Nov 11 2026. No macro, syntax, notation, axiom, sorry.
-/
import Derived.Test.YtpbfabcihoiiiaaDoorRows
import GoSem.ClaimSeven
namespace Go.Proofs.YtpbfabcihoiiiaaDoor
namespace Rows

/-- THE TIED CARD OF 'foyerlaw18.HallReads'. -/
def hallReadsCard : Claim7 := { stood := { row := hallReadsRow, standIns := [], harness := (true, "52790ef709fc673a55c9512f0b5024906b21a25de7e1eb152618731599d9f1ba"), looks := true }, kinds := [], alts := [], laidByText := true, laidKinds := [.handle], laidTests := true, laidLooks := .later }
def HallReadsCardSaid : Prop := Claim7.holds Tryd.pinned (.plain (OpenSpec.ofChange hallReadsSpec)) hallReadsCard

/-- THE TIED CARD OF 'foyerlaw18.HallKnown'. -/
def hallKnownCard : Claim7 := { stood := { row := hallKnownRow, standIns := [], harness := (true, "52790ef709fc673a55c9512f0b5024906b21a25de7e1eb152618731599d9f1ba"), looks := true }, kinds := [], alts := [], laidByText := true, laidKinds := [.handle], laidTests := true, laidLooks := .later }
def HallKnownCardSaid : Prop := Claim7.holds Tryd.pinned (.plain (OpenSpec.ofChange hallKnownSpec)) hallKnownCard

/-- THE SECOND FORM's CARD OF 'foyerlaw18.HallReads'. -/
def hallReadsUptoCard : Claim7 := { stood := { row := hallReadsUptoRow, standIns := [], harness := (true, "52790ef709fc673a55c9512f0b5024906b21a25de7e1eb152618731599d9f1ba"), looks := true }, kinds := [], alts := [], laidByText := true, laidKinds := [.handle], laidTests := true, laidLooks := .later }
def HallReadsUptoCardSaid : Prop := Claim7.holds Tryd.pinned (.plain (OpenSpec.upto hallReadsSpec)) hallReadsUptoCard

/-- THE SECOND FORM's CARD OF 'foyerlaw18.HallKnown'. -/
def hallKnownUptoCard : Claim7 := { stood := { row := hallKnownUptoRow, standIns := [], harness := (true, "52790ef709fc673a55c9512f0b5024906b21a25de7e1eb152618731599d9f1ba"), looks := true }, kinds := [], alts := [], laidByText := true, laidKinds := [.handle], laidTests := true, laidLooks := .later }
def HallKnownUptoCardSaid : Prop := Claim7.holds Tryd.pinned (.plain (OpenSpec.upto hallKnownSpec)) hallKnownUptoCard
end Rows
end Go.Proofs.YtpbfabcihoiiiaaDoor
