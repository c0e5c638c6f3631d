/-
  DERIVED. GIVEN WITH THE SEED: THE CARDS: each row of YtdnnbnohemkfkaaDoorRows.lean that lists a variable, with what it lists TIED to the program's text (the seventh form; the later family's looks); each row that meets fmt, with fmt's text TOLD by the authors' own Lean function (tested against real Go, not proved from fmt's source: count such statements apart). THE CARD IS WHAT COUNTS. Prove the row's statement (the work); the ties are given (YtdnnbnohemkfkaaDoorTie.lean); close each card by the builder's one call (the guide's Derived/Test/ToyasCard.lean, 'card_holds'). Laid BY PROGRAM, IN A SANDBOX (cutbox-door.mjs). By AI agents, Wed Nov 11 2026. No macro, syntax, notation, axiom, sorry.
-/
import Derived.Test.YtdnnbnohemkfkaaDoorRows
import GoSem.ClaimSeven
namespace Go.Proofs.YtdnnbnohemkfkaaDoor
namespace Rows

/-- THE TIED CARD OF 'foyerlaw17.KeysLaid'. -/
def keysLaidCard : Claim7 := { stood := { row := keysLaidRow, standIns := [], harness := (true, "cce624fcaed5e22d6142b67c34000ce33b436d3402e46818cc47297732c9a32a"), looks := true }, kinds := [], alts := [], laidByText := true, laidKinds := [.widerDeep], laidTests := true, laidLooks := .later }
def KeysLaidCardSaid : Prop := Claim7.holds Tryd.pinned (.plain (OpenSpec.ofChange keysLaidSpec)) keysLaidCard

/-- THE TIED CARD OF 'foyerlaw17.KeysEnds'. -/
def keysEndsCard : Claim7 := { stood := { row := keysEndsRow, standIns := [], harness := (true, "cce624fcaed5e22d6142b67c34000ce33b436d3402e46818cc47297732c9a32a"), looks := true }, kinds := [], alts := [], laidByText := true, laidKinds := [.widerDeep], laidTests := true, laidLooks := .later }
def KeysEndsCardSaid : Prop := Claim7.holds Tryd.pinned (.plain (OpenSpec.ofChange keysEndsSpec)) keysEndsCard

/-- THE TIED CARD OF 'foyerlaw17.KeysRead'. -/
def keysReadCard : Claim7 := { stood := { row := keysReadRow, standIns := [], harness := (true, "cce624fcaed5e22d6142b67c34000ce33b436d3402e46818cc47297732c9a32a"), looks := true }, kinds := [], alts := [], laidByText := true, laidKinds := [.widerDeep], laidTests := true, laidLooks := .later }
def KeysReadCardSaid : Prop := Claim7.holds Tryd.pinned (.plain (OpenSpec.ofChange keysReadSpec)) keysReadCard

/-- THE TIED CARD OF 'foyerlaw17.KeysOrder'. -/
def keysOrderCard : Claim7 := { stood := { row := keysOrderRow, standIns := [], harness := (true, "cce624fcaed5e22d6142b67c34000ce33b436d3402e46818cc47297732c9a32a"), looks := true }, kinds := [], alts := [], laidByText := true, laidKinds := [.widerDeep], laidTests := true, laidLooks := .later }
def KeysOrderCardSaid : Prop := Claim7.holds Tryd.pinned (.plain (OpenSpec.ofChange keysOrderSpec)) keysOrderCard

/-- THE TIED CARD OF 'foyerlaw17.KeysKnown'. -/
def keysKnownCard : Claim7 := { stood := { row := keysKnownRow, standIns := [], harness := (true, "cce624fcaed5e22d6142b67c34000ce33b436d3402e46818cc47297732c9a32a"), looks := true }, kinds := [], alts := [], laidByText := true, laidKinds := [.widerDeep], laidTests := true, laidLooks := .later }
def KeysKnownCardSaid : Prop := Claim7.holds Tryd.pinned (.plain (OpenSpec.ofChange keysKnownSpec)) keysKnownCard

/-- THE SECOND FORM's CARD OF 'foyerlaw17.KeysLaid'. -/
def keysLaidUptoCard : Claim7 := { stood := { row := keysLaidUptoRow, standIns := [], harness := (true, "cce624fcaed5e22d6142b67c34000ce33b436d3402e46818cc47297732c9a32a"), looks := true }, kinds := [], alts := [], laidByText := true, laidKinds := [.widerDeep], laidTests := true, laidLooks := .later }
def KeysLaidUptoCardSaid : Prop := Claim7.holds Tryd.pinned (.plain (OpenSpec.upto keysLaidSpec)) keysLaidUptoCard

/-- THE SECOND FORM's CARD OF 'foyerlaw17.KeysEnds'. -/
def keysEndsUptoCard : Claim7 := { stood := { row := keysEndsUptoRow, standIns := [], harness := (true, "cce624fcaed5e22d6142b67c34000ce33b436d3402e46818cc47297732c9a32a"), looks := true }, kinds := [], alts := [], laidByText := true, laidKinds := [.widerDeep], laidTests := true, laidLooks := .later }
def KeysEndsUptoCardSaid : Prop := Claim7.holds Tryd.pinned (.plain (OpenSpec.upto keysEndsSpec)) keysEndsUptoCard

/-- THE SECOND FORM's CARD OF 'foyerlaw17.KeysRead'. -/
def keysReadUptoCard : Claim7 := { stood := { row := keysReadUptoRow, standIns := [], harness := (true, "cce624fcaed5e22d6142b67c34000ce33b436d3402e46818cc47297732c9a32a"), looks := true }, kinds := [], alts := [], laidByText := true, laidKinds := [.widerDeep], laidTests := true, laidLooks := .later }
def KeysReadUptoCardSaid : Prop := Claim7.holds Tryd.pinned (.plain (OpenSpec.upto keysReadSpec)) keysReadUptoCard

/-- THE SECOND FORM's CARD OF 'foyerlaw17.KeysOrder'. -/
def keysOrderUptoCard : Claim7 := { stood := { row := keysOrderUptoRow, standIns := [], harness := (true, "cce624fcaed5e22d6142b67c34000ce33b436d3402e46818cc47297732c9a32a"), looks := true }, kinds := [], alts := [], laidByText := true, laidKinds := [.widerDeep], laidTests := true, laidLooks := .later }
def KeysOrderUptoCardSaid : Prop := Claim7.holds Tryd.pinned (.plain (OpenSpec.upto keysOrderSpec)) keysOrderUptoCard

/-- THE SECOND FORM's CARD OF 'foyerlaw17.KeysKnown'. -/
def keysKnownUptoCard : Claim7 := { stood := { row := keysKnownUptoRow, standIns := [], harness := (true, "cce624fcaed5e22d6142b67c34000ce33b436d3402e46818cc47297732c9a32a"), looks := true }, kinds := [], alts := [], laidByText := true, laidKinds := [.widerDeep], laidTests := true, laidLooks := .later }
def KeysKnownUptoCardSaid : Prop := Claim7.holds Tryd.pinned (.plain (OpenSpec.upto keysKnownSpec)) keysKnownUptoCard
end Rows
end Go.Proofs.YtdnnbnohemkfkaaDoor
