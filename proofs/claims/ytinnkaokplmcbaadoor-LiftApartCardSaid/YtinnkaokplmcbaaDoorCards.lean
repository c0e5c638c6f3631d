/-
  DERIVED. GIVEN WITH THE SEED: THE CARDS: each row of YtinnkaokplmcbaaDoorRows.lean that lists a variable, with what it lists TIED to the program's text (the seventh form; the later family's looks); each row that meets fmt, with fmt's text TOLD by the authors' own Lean function (tested against real Go, not proved from fmt's source: count such statements apart). THE CARD IS WHAT COUNTS. Prove the row's statement (the work); the ties are given (YtinnkaokplmcbaaDoorTie.lean); close each card by the builder's one call (the guide's Derived/Test/ToyasCard.lean, 'card_holds'). Laid BY PROGRAM, IN A SANDBOX (cutbox-door.mjs). By AI agents, Wed Nov 11 2026. No macro, syntax, notation, axiom, sorry.
-/
import Derived.Test.YtinnkaokplmcbaaDoorRows
import GoSem.ClaimSeven
namespace Go.Proofs.YtinnkaokplmcbaaDoor
namespace Rows

/-- THE TIED CARD OF 'foyerlaw22.LiftUps'. -/
def liftUpsCard : Claim7 := { stood := { row := liftUpsRow, standIns := [], harness := (true, "8eeb1ecb24c855c44e0d9b2ee509d3f0b3bcb626200edc9a28ff342f1eb13ec7"), looks := false }, kinds := [], alts := [], laidByText := true, laidKinds := [.widerDeep], laidTests := true, laidLooks := .later }
def LiftUpsCardSaid : Prop := Claim7.holds Tryd.pinned (.plain (OpenSpec.ofChange liftUpsSpec)) liftUpsCard

/-- THE TIED CARD OF 'foyerlaw22.LiftBack'. -/
def liftBackCard : Claim7 := { stood := { row := liftBackRow, standIns := [], harness := (true, "8eeb1ecb24c855c44e0d9b2ee509d3f0b3bcb626200edc9a28ff342f1eb13ec7"), looks := false }, kinds := [], alts := [], laidByText := true, laidKinds := [.widerDeep], laidTests := true, laidLooks := .later }
def LiftBackCardSaid : Prop := Claim7.holds Tryd.pinned (.plain (OpenSpec.ofChange liftBackSpec)) liftBackCard

/-- THE TIED CARD OF 'foyerlaw22.LiftLists'. -/
def liftListsCard : Claim7 := { stood := { row := liftListsRow, standIns := [], harness := (true, "8eeb1ecb24c855c44e0d9b2ee509d3f0b3bcb626200edc9a28ff342f1eb13ec7"), looks := false }, kinds := [], alts := [], laidByText := true, laidKinds := [.widerDeep], laidTests := true, laidLooks := .later }
def LiftListsCardSaid : Prop := Claim7.holds Tryd.pinned (.plain (OpenSpec.ofChange liftListsSpec)) liftListsCard

/-- THE TIED CARD OF 'foyerlaw22.LiftApart'. -/
def liftApartCard : Claim7 := { stood := { row := liftApartRow, standIns := [], harness := (true, "8eeb1ecb24c855c44e0d9b2ee509d3f0b3bcb626200edc9a28ff342f1eb13ec7"), looks := false }, kinds := [], alts := [], laidByText := true, laidKinds := [.widerDeep], laidTests := true, laidLooks := .later }
def LiftApartCardSaid : Prop := Claim7.holds Tryd.pinned (.plain (OpenSpec.ofChange liftApartSpec)) liftApartCard

/-- THE TIED CARD OF 'foyerlaw22.LiftKnown'. -/
def liftKnownCard : Claim7 := { stood := { row := liftKnownRow, standIns := [], harness := (true, "8eeb1ecb24c855c44e0d9b2ee509d3f0b3bcb626200edc9a28ff342f1eb13ec7"), looks := false }, kinds := [], alts := [], laidByText := true, laidKinds := [.widerDeep], laidTests := true, laidLooks := .later }
def LiftKnownCardSaid : Prop := Claim7.holds Tryd.pinned (.plain (OpenSpec.ofChange liftKnownSpec)) liftKnownCard

/-- THE SECOND FORM's CARD OF 'foyerlaw22.LiftUps'. -/
def liftUpsUptoCard : Claim7 := { stood := { row := liftUpsUptoRow, standIns := [], harness := (true, "8eeb1ecb24c855c44e0d9b2ee509d3f0b3bcb626200edc9a28ff342f1eb13ec7"), looks := false }, kinds := [], alts := [], laidByText := true, laidKinds := [.widerDeep], laidTests := true, laidLooks := .later }
def LiftUpsUptoCardSaid : Prop := Claim7.holds Tryd.pinned (.plain (OpenSpec.upto liftUpsSpec)) liftUpsUptoCard

/-- THE SECOND FORM's CARD OF 'foyerlaw22.LiftBack'. -/
def liftBackUptoCard : Claim7 := { stood := { row := liftBackUptoRow, standIns := [], harness := (true, "8eeb1ecb24c855c44e0d9b2ee509d3f0b3bcb626200edc9a28ff342f1eb13ec7"), looks := false }, kinds := [], alts := [], laidByText := true, laidKinds := [.widerDeep], laidTests := true, laidLooks := .later }
def LiftBackUptoCardSaid : Prop := Claim7.holds Tryd.pinned (.plain (OpenSpec.upto liftBackSpec)) liftBackUptoCard

/-- THE SECOND FORM's CARD OF 'foyerlaw22.LiftLists'. -/
def liftListsUptoCard : Claim7 := { stood := { row := liftListsUptoRow, standIns := [], harness := (true, "8eeb1ecb24c855c44e0d9b2ee509d3f0b3bcb626200edc9a28ff342f1eb13ec7"), looks := false }, kinds := [], alts := [], laidByText := true, laidKinds := [.widerDeep], laidTests := true, laidLooks := .later }
def LiftListsUptoCardSaid : Prop := Claim7.holds Tryd.pinned (.plain (OpenSpec.upto liftListsSpec)) liftListsUptoCard

/-- THE SECOND FORM's CARD OF 'foyerlaw22.LiftApart'. -/
def liftApartUptoCard : Claim7 := { stood := { row := liftApartUptoRow, standIns := [], harness := (true, "8eeb1ecb24c855c44e0d9b2ee509d3f0b3bcb626200edc9a28ff342f1eb13ec7"), looks := false }, kinds := [], alts := [], laidByText := true, laidKinds := [.widerDeep], laidTests := true, laidLooks := .later }
def LiftApartUptoCardSaid : Prop := Claim7.holds Tryd.pinned (.plain (OpenSpec.upto liftApartSpec)) liftApartUptoCard

/-- THE SECOND FORM's CARD OF 'foyerlaw22.LiftKnown'. -/
def liftKnownUptoCard : Claim7 := { stood := { row := liftKnownUptoRow, standIns := [], harness := (true, "8eeb1ecb24c855c44e0d9b2ee509d3f0b3bcb626200edc9a28ff342f1eb13ec7"), looks := false }, kinds := [], alts := [], laidByText := true, laidKinds := [.widerDeep], laidTests := true, laidLooks := .later }
def LiftKnownUptoCardSaid : Prop := Claim7.holds Tryd.pinned (.plain (OpenSpec.upto liftKnownSpec)) liftKnownUptoCard
end Rows
end Go.Proofs.YtinnkaokplmcbaaDoor
