/-
  NARROWER THAN 'FOR EVERY INPUT', by the rows' own cells (each row's printed sentence says how): IdentNames: laid · IdentSeats: laid · IdentBack: laid · IdentOne: laid · IdentParts: laid · IdentKnown: laid.
  DERIVED. THE GIVEN ROWS OF THIS SEAT. 6 by the template 'for every input the law returns true; each argument reads behind the call as it read before'; 0 by the template 'total and deterministic' (their statements: YteelccgaemmmpaaDoorTotals.lean).
  GIVEN WITH THE SEED: the statements are not yours to turn. If you find one false, say at which input.
  Laid BY PROGRAM, IN A SANDBOX (cutbox-rows.mjs): the forced cells as the released guide's own fill.sh prints them over the translation 67e859ab7a43ea06… (all of the seat's roots in one cut). By AI agents, Wed Nov 11 2026. No macro, syntax, notation, axiom, sorry.
-/
import Derived.Test.YteelccgaemmmpaaDoorChecked
import GoSem.PinnedTables
import GoSem.Claim
import GoSem.ClaimJoined
import GoSem.ClaimMapViews
import Derived.JoinedTies
import Derived.KernelRfl
namespace Go.Proofs.YteelccgaemmmpaaDoor
/- THE CELL 'sum', in the pinned program and in every row, IS THE sha256 OF THE DUMP (.gsa) THAT YteelccgaemmmpaaDoorProg.lean LOADS. Nothing in Lean hashes anything: it is a label: what it is worth is what the hold of that sum in a sandbox is worth. -/
noncomputable def Tryd.pinned : Pinned := { name := "yteelccgaemmmpaadoor", sum := "67e859ab7a43ea06784004b80ba979a79557b30cdf7710d360ce4c96b866091d", checked := Tryd.checked }
namespace Rows
def none {H : Type} : Left H := { results := [], args := [] }

/- WHAT THE LISTED PACKAGE-LEVEL VARIABLES READ AS WHEN THE CALL BEGINS. Each datum BY PROGRAM (the guide's laid-datum.mjs) off the statement by which the dump's own 'gosem.cut.vars' lays the variable. In a bare row this is a premise. The card (YteelccgaemmmpaaDoorCards.lean) ties it to the program's text. -/
def laid_unicode_utf8_acceptRanges {H : Type} : DataW H := .agg [.agg [.lit (.int .u8 128), .lit (.int .u8 191)], .agg [.lit (.int .u8 160), .lit (.int .u8 191)], .agg [.lit (.int .u8 128), .lit (.int .u8 159)], .agg [.lit (.int .u8 144), .lit (.int .u8 191)], .agg [.lit (.int .u8 128), .lit (.int .u8 143)], .agg [.lit (.int .u8 0), .lit (.int .u8 0)], .agg [.lit (.int .u8 0), .lit (.int .u8 0)], .agg [.lit (.int .u8 0), .lit (.int .u8 0)], .agg [.lit (.int .u8 0), .lit (.int .u8 0)], .agg [.lit (.int .u8 0), .lit (.int .u8 0)], .agg [.lit (.int .u8 0), .lit (.int .u8 0)], .agg [.lit (.int .u8 0), .lit (.int .u8 0)], .agg [.lit (.int .u8 0), .lit (.int .u8 0)], .agg [.lit (.int .u8 0), .lit (.int .u8 0)], .agg [.lit (.int .u8 0), .lit (.int .u8 0)], .agg [.lit (.int .u8 0), .lit (.int .u8 0)]]
def laid_foyer_ident_inEvents {H : Type} : DataW H := .agg [.agg [.lit (.int .u8 97), .lit (.int .u8 122)], .agg [.lit (.int .u8 48), .lit (.int .u8 57)], .agg [.lit (.int .u8 45), .lit (.int .u8 45)]]
def laid_foyer_ident_inPersons {H : Type} : DataW H := .agg [.agg [.lit (.int .u8 33), .lit (.int .u8 126)]]
/-- One of Go's own tables, pinned by name: the form's constant. -/
def laid_unicode_utf8_first : DataW Unit := Go.Pinned.utf8First

/-- 'foyerlaw16.IdentNames': WHATEVER THE INPUT: true; the input reads as it did. -/
def identNamesSpec : ChangeSpec := { name := "identNames", fn := fun _ => fun
  | [d1, d2, d3] => { results := [.lit (.bool true)], args := [d1, d2, d3] }
  | _ => none }
def identNamesRow : OpenClaim := { program := "yteelccgaemmmpaadoor", sum := "67e859ab7a43ea06784004b80ba979a79557b30cdf7710d360ce4c96b866091d", func := "foyer/foyerlaw16.IdentNames", spec := "identNames", inPlace := ["internal/bytealg.CountString", "internal/bytealg.IndexByteString", "internal/bytealg.IndexString", "internal/abi.NoEscape", "internal/bytealg.MakeNoZero"], unfollowed := true, recurses := true, named := ["foyer/ident.inEvents", "unicode/utf8.first", "unicode/utf8.acceptRanges", "internal/bytealg.MaxLen", "foyer/ident.inPersons"], apart := false, laid := [("unicode/utf8.acceptRanges", laid_unicode_utf8_acceptRanges), ("foyer/ident.inEvents", laid_foyer_ident_inEvents), ("foyer/ident.inPersons", laid_foyer_ident_inPersons), ("unicode/utf8.first", laid_unicode_utf8_first)] }
def IdentNamesSaid : Prop := identNamesRow.holds Tryd.pinned (OpenSpec.ofChange identNamesSpec)

/-- ITS FALSE NEIGHBOUR: 'it returns false'. Refute it at one input. -/
def identNamesWrong : ChangeSpec := { name := "identNames", fn := fun _ => fun
  | [d1, d2, d3] => { results := [.lit (.bool false)], args := [d1, d2, d3] }
  | _ => none }
def IdentNamesWrongFalsely : Prop := identNamesRow.holds Tryd.pinned (OpenSpec.ofChange identNamesWrong)

/-- 'foyerlaw16.IdentSeats': WHATEVER THE INPUT: true; the input reads as it did. -/
def identSeatsSpec : ChangeSpec := { name := "identSeats", fn := fun _ => fun
  | [d1, d2] => { results := [.lit (.bool true)], args := [d1, d2] }
  | _ => none }
def identSeatsRow : OpenClaim := { program := "yteelccgaemmmpaadoor", sum := "67e859ab7a43ea06784004b80ba979a79557b30cdf7710d360ce4c96b866091d", func := "foyer/foyerlaw16.IdentSeats", spec := "identSeats", inPlace := ["internal/abi.NoEscape", "internal/bytealg.MakeNoZero", "internal/bytealg.CountString", "internal/bytealg.IndexByteString", "internal/bytealg.IndexString"], unfollowed := true, recurses := true, named := ["unicode/utf8.first", "unicode/utf8.acceptRanges", "internal/bytealg.MaxLen", "foyer/ident.inEvents", "foyer/ident.inPersons"], apart := false, laid := [("unicode/utf8.acceptRanges", laid_unicode_utf8_acceptRanges), ("foyer/ident.inEvents", laid_foyer_ident_inEvents), ("foyer/ident.inPersons", laid_foyer_ident_inPersons), ("unicode/utf8.first", laid_unicode_utf8_first)] }
def IdentSeatsSaid : Prop := identSeatsRow.holds Tryd.pinned (OpenSpec.ofChange identSeatsSpec)

/-- ITS FALSE NEIGHBOUR: 'it returns false'. Refute it at one input. -/
def identSeatsWrong : ChangeSpec := { name := "identSeats", fn := fun _ => fun
  | [d1, d2] => { results := [.lit (.bool false)], args := [d1, d2] }
  | _ => none }
def IdentSeatsWrongFalsely : Prop := identSeatsRow.holds Tryd.pinned (OpenSpec.ofChange identSeatsWrong)

/-- 'foyerlaw16.IdentBack': WHATEVER THE INPUT: true; the input reads as it did. -/
def identBackSpec : ChangeSpec := { name := "identBack", fn := fun _ => fun
  | [d1, d2] => { results := [.lit (.bool true)], args := [d1, d2] }
  | _ => none }
def identBackRow : OpenClaim := { program := "yteelccgaemmmpaadoor", sum := "67e859ab7a43ea06784004b80ba979a79557b30cdf7710d360ce4c96b866091d", func := "foyer/foyerlaw16.IdentBack", spec := "identBack", inPlace := ["internal/bytealg.CountString", "internal/bytealg.IndexByteString", "internal/bytealg.IndexString", "internal/abi.NoEscape", "internal/bytealg.MakeNoZero"], unfollowed := true, recurses := true, named := ["unicode/utf8.first", "unicode/utf8.acceptRanges", "internal/bytealg.MaxLen", "foyer/ident.inEvents", "foyer/ident.inPersons"], apart := false, laid := [("unicode/utf8.acceptRanges", laid_unicode_utf8_acceptRanges), ("foyer/ident.inEvents", laid_foyer_ident_inEvents), ("foyer/ident.inPersons", laid_foyer_ident_inPersons), ("unicode/utf8.first", laid_unicode_utf8_first)] }
def IdentBackSaid : Prop := identBackRow.holds Tryd.pinned (OpenSpec.ofChange identBackSpec)

/-- ITS FALSE NEIGHBOUR: 'it returns false'. Refute it at one input. -/
def identBackWrong : ChangeSpec := { name := "identBack", fn := fun _ => fun
  | [d1, d2] => { results := [.lit (.bool false)], args := [d1, d2] }
  | _ => none }
def IdentBackWrongFalsely : Prop := identBackRow.holds Tryd.pinned (OpenSpec.ofChange identBackWrong)

/-- 'foyerlaw16.IdentOne': WHATEVER THE INPUT: true; the input reads as it did. -/
def identOneSpec : ChangeSpec := { name := "identOne", fn := fun _ => fun
  | [d1, d2, d3] => { results := [.lit (.bool true)], args := [d1, d2, d3] }
  | _ => none }
def identOneRow : OpenClaim := { program := "yteelccgaemmmpaadoor", sum := "67e859ab7a43ea06784004b80ba979a79557b30cdf7710d360ce4c96b866091d", func := "foyer/foyerlaw16.IdentOne", spec := "identOne", inPlace := ["internal/bytealg.CountString", "internal/bytealg.IndexByteString", "internal/bytealg.IndexString", "internal/abi.NoEscape", "internal/bytealg.MakeNoZero"], unfollowed := true, recurses := true, named := ["unicode/utf8.first", "unicode/utf8.acceptRanges", "internal/bytealg.MaxLen", "foyer/ident.inEvents", "foyer/ident.inPersons"], apart := false, laid := [("unicode/utf8.acceptRanges", laid_unicode_utf8_acceptRanges), ("foyer/ident.inEvents", laid_foyer_ident_inEvents), ("foyer/ident.inPersons", laid_foyer_ident_inPersons), ("unicode/utf8.first", laid_unicode_utf8_first)] }
def IdentOneSaid : Prop := identOneRow.holds Tryd.pinned (OpenSpec.ofChange identOneSpec)

/-- ITS FALSE NEIGHBOUR: 'it returns false'. Refute it at one input. -/
def identOneWrong : ChangeSpec := { name := "identOne", fn := fun _ => fun
  | [d1, d2, d3] => { results := [.lit (.bool false)], args := [d1, d2, d3] }
  | _ => none }
def IdentOneWrongFalsely : Prop := identOneRow.holds Tryd.pinned (OpenSpec.ofChange identOneWrong)

/-- 'foyerlaw16.IdentParts': WHATEVER THE INPUT: true; the input reads as it did. -/
def identPartsSpec : ChangeSpec := { name := "identParts", fn := fun _ => fun
  | [d1, d2, d3] => { results := [.lit (.bool true)], args := [d1, d2, d3] }
  | _ => none }
def identPartsRow : OpenClaim := { program := "yteelccgaemmmpaadoor", sum := "67e859ab7a43ea06784004b80ba979a79557b30cdf7710d360ce4c96b866091d", func := "foyer/foyerlaw16.IdentParts", spec := "identParts", inPlace := ["internal/bytealg.CountString", "internal/bytealg.IndexByteString", "internal/bytealg.IndexString", "internal/abi.NoEscape", "internal/bytealg.MakeNoZero"], unfollowed := true, recurses := true, named := ["unicode/utf8.first", "unicode/utf8.acceptRanges", "internal/bytealg.MaxLen", "foyer/ident.inEvents", "foyer/ident.inPersons"], apart := false, laid := [("unicode/utf8.acceptRanges", laid_unicode_utf8_acceptRanges), ("foyer/ident.inEvents", laid_foyer_ident_inEvents), ("foyer/ident.inPersons", laid_foyer_ident_inPersons), ("unicode/utf8.first", laid_unicode_utf8_first)] }
def IdentPartsSaid : Prop := identPartsRow.holds Tryd.pinned (OpenSpec.ofChange identPartsSpec)

/-- ITS FALSE NEIGHBOUR: 'it returns false'. Refute it at one input. -/
def identPartsWrong : ChangeSpec := { name := "identParts", fn := fun _ => fun
  | [d1, d2, d3] => { results := [.lit (.bool false)], args := [d1, d2, d3] }
  | _ => none }
def IdentPartsWrongFalsely : Prop := identPartsRow.holds Tryd.pinned (OpenSpec.ofChange identPartsWrong)

/-- 'foyerlaw16.IdentKnown': WHATEVER THE INPUT: true; the input reads as it did. -/
def identKnownSpec : ChangeSpec := { name := "identKnown", fn := fun _ => fun
  | [] => { results := [.lit (.bool true)], args := [] }
  | _ => none }
def identKnownRow : OpenClaim := { program := "yteelccgaemmmpaadoor", sum := "67e859ab7a43ea06784004b80ba979a79557b30cdf7710d360ce4c96b866091d", func := "foyer/foyerlaw16.IdentKnown", spec := "identKnown", inPlace := ["internal/bytealg.CountString", "internal/bytealg.IndexByteString", "internal/bytealg.IndexString", "internal/abi.NoEscape", "internal/bytealg.MakeNoZero"], unfollowed := true, recurses := true, named := ["foyer/ident.inEvents", "unicode/utf8.first", "unicode/utf8.acceptRanges", "internal/bytealg.MaxLen", "foyer/ident.inPersons"], apart := false, laid := [("unicode/utf8.acceptRanges", laid_unicode_utf8_acceptRanges), ("foyer/ident.inEvents", laid_foyer_ident_inEvents), ("foyer/ident.inPersons", laid_foyer_ident_inPersons), ("unicode/utf8.first", laid_unicode_utf8_first)] }
def IdentKnownSaid : Prop := identKnownRow.holds Tryd.pinned (OpenSpec.ofChange identKnownSpec)

/-- ITS FALSE NEIGHBOUR: 'it returns false'. Refute it at one input. -/
def identKnownWrong : ChangeSpec := { name := "identKnown", fn := fun _ => fun
  | [] => { results := [.lit (.bool false)], args := [] }
  | _ => none }
def IdentKnownWrongFalsely : Prop := identKnownRow.holds Tryd.pinned (OpenSpec.ofChange identKnownWrong)

/- THE SECOND FORM. 'bulk': how many values and letters a reading holds, each counted each time it is reached (what is shared counts as often as it is met; a slice's spare places count too). A statement '..UptoSaid' is the law's where the arguments, and the package variables that the reading takes, are together of bulk at most 1048576: NARROWER than '..Said'. Prove '..Said' where nothing that the law and all that it calls make is longer than what came in: it says more and counts as full. Else prove '..UptoSaid'. A law counts once. -/
mutual
def uptoBulk {H : Type} : DataW H → Nat
  | .lit (.string bytes) => bytes.length + 1
  | .lit _ => 1
  | .nil => 1
  | .ptr d => uptoBulk d + 1
  | .slice elems spare => uptoBulkAll elems + uptoBulkAll spare + 1
  | .agg parts => uptoBulkAll parts + 1
  | .iface _ d => uptoBulk d + 1
  | .map entries => uptoBulkEntries entries + 1
  | .held _ => 1
def uptoBulkAll {H : Type} : List (DataW H) → Nat
  | [] => 0
  | d :: r => uptoBulk d + uptoBulkAll r
def uptoBulkEntries {H : Type} : List (Lit × DataW H) → Nat
  | [] => 0
  | x :: r => uptoBulkEntry x + uptoBulkEntries r
def uptoBulkEntry {H : Type} : Lit × DataW H → Nat
  | (.string bytes, d) => bytes.length + uptoBulk d + 1
  | (_, d) => uptoBulk d + 1
 end
def uptoSmall : (H : Type) → List (DataW H) → Bool := fun _ ds => decide (uptoBulkAll ds ≤ 1048576)
def OpenSpec.upto (s : _root_.Go.ChangeSpec) : _root_.Go.OpenSpec := { _root_.Go.OpenSpec.ofChange s with cond := some uptoSmall }

/-- 'foyerlaw16.IdentNames', WHERE WHAT IT READS IS OF BULK AT MOST 1048576: true; the input reads as it did. -/
def identNamesUptoRow : OpenClaim := { program := "yteelccgaemmmpaadoor", sum := "67e859ab7a43ea06784004b80ba979a79557b30cdf7710d360ce4c96b866091d", func := "foyer/foyerlaw16.IdentNames", spec := "identNames", inPlace := ["internal/bytealg.CountString", "internal/bytealg.IndexByteString", "internal/bytealg.IndexString", "internal/abi.NoEscape", "internal/bytealg.MakeNoZero"], unfollowed := true, recurses := true, named := ["foyer/ident.inEvents", "unicode/utf8.first", "unicode/utf8.acceptRanges", "internal/bytealg.MaxLen", "foyer/ident.inPersons"], apart := false, laid := [("unicode/utf8.acceptRanges", laid_unicode_utf8_acceptRanges), ("foyer/ident.inEvents", laid_foyer_ident_inEvents), ("foyer/ident.inPersons", laid_foyer_ident_inPersons), ("unicode/utf8.first", laid_unicode_utf8_first)], narrowed := true }
def IdentNamesUptoSaid : Prop := identNamesUptoRow.holds Tryd.pinned (OpenSpec.upto identNamesSpec)

/-- 'foyerlaw16.IdentSeats', WHERE WHAT IT READS IS OF BULK AT MOST 1048576: true; the input reads as it did. -/
def identSeatsUptoRow : OpenClaim := { program := "yteelccgaemmmpaadoor", sum := "67e859ab7a43ea06784004b80ba979a79557b30cdf7710d360ce4c96b866091d", func := "foyer/foyerlaw16.IdentSeats", spec := "identSeats", inPlace := ["internal/abi.NoEscape", "internal/bytealg.MakeNoZero", "internal/bytealg.CountString", "internal/bytealg.IndexByteString", "internal/bytealg.IndexString"], unfollowed := true, recurses := true, named := ["unicode/utf8.first", "unicode/utf8.acceptRanges", "internal/bytealg.MaxLen", "foyer/ident.inEvents", "foyer/ident.inPersons"], apart := false, laid := [("unicode/utf8.acceptRanges", laid_unicode_utf8_acceptRanges), ("foyer/ident.inEvents", laid_foyer_ident_inEvents), ("foyer/ident.inPersons", laid_foyer_ident_inPersons), ("unicode/utf8.first", laid_unicode_utf8_first)], narrowed := true }
def IdentSeatsUptoSaid : Prop := identSeatsUptoRow.holds Tryd.pinned (OpenSpec.upto identSeatsSpec)

/-- 'foyerlaw16.IdentBack', WHERE WHAT IT READS IS OF BULK AT MOST 1048576: true; the input reads as it did. -/
def identBackUptoRow : OpenClaim := { program := "yteelccgaemmmpaadoor", sum := "67e859ab7a43ea06784004b80ba979a79557b30cdf7710d360ce4c96b866091d", func := "foyer/foyerlaw16.IdentBack", spec := "identBack", inPlace := ["internal/bytealg.CountString", "internal/bytealg.IndexByteString", "internal/bytealg.IndexString", "internal/abi.NoEscape", "internal/bytealg.MakeNoZero"], unfollowed := true, recurses := true, named := ["unicode/utf8.first", "unicode/utf8.acceptRanges", "internal/bytealg.MaxLen", "foyer/ident.inEvents", "foyer/ident.inPersons"], apart := false, laid := [("unicode/utf8.acceptRanges", laid_unicode_utf8_acceptRanges), ("foyer/ident.inEvents", laid_foyer_ident_inEvents), ("foyer/ident.inPersons", laid_foyer_ident_inPersons), ("unicode/utf8.first", laid_unicode_utf8_first)], narrowed := true }
def IdentBackUptoSaid : Prop := identBackUptoRow.holds Tryd.pinned (OpenSpec.upto identBackSpec)

/-- 'foyerlaw16.IdentOne', WHERE WHAT IT READS IS OF BULK AT MOST 1048576: true; the input reads as it did. -/
def identOneUptoRow : OpenClaim := { program := "yteelccgaemmmpaadoor", sum := "67e859ab7a43ea06784004b80ba979a79557b30cdf7710d360ce4c96b866091d", func := "foyer/foyerlaw16.IdentOne", spec := "identOne", inPlace := ["internal/bytealg.CountString", "internal/bytealg.IndexByteString", "internal/bytealg.IndexString", "internal/abi.NoEscape", "internal/bytealg.MakeNoZero"], unfollowed := true, recurses := true, named := ["unicode/utf8.first", "unicode/utf8.acceptRanges", "internal/bytealg.MaxLen", "foyer/ident.inEvents", "foyer/ident.inPersons"], apart := false, laid := [("unicode/utf8.acceptRanges", laid_unicode_utf8_acceptRanges), ("foyer/ident.inEvents", laid_foyer_ident_inEvents), ("foyer/ident.inPersons", laid_foyer_ident_inPersons), ("unicode/utf8.first", laid_unicode_utf8_first)], narrowed := true }
def IdentOneUptoSaid : Prop := identOneUptoRow.holds Tryd.pinned (OpenSpec.upto identOneSpec)

/-- 'foyerlaw16.IdentParts', WHERE WHAT IT READS IS OF BULK AT MOST 1048576: true; the input reads as it did. -/
def identPartsUptoRow : OpenClaim := { program := "yteelccgaemmmpaadoor", sum := "67e859ab7a43ea06784004b80ba979a79557b30cdf7710d360ce4c96b866091d", func := "foyer/foyerlaw16.IdentParts", spec := "identParts", inPlace := ["internal/bytealg.CountString", "internal/bytealg.IndexByteString", "internal/bytealg.IndexString", "internal/abi.NoEscape", "internal/bytealg.MakeNoZero"], unfollowed := true, recurses := true, named := ["unicode/utf8.first", "unicode/utf8.acceptRanges", "internal/bytealg.MaxLen", "foyer/ident.inEvents", "foyer/ident.inPersons"], apart := false, laid := [("unicode/utf8.acceptRanges", laid_unicode_utf8_acceptRanges), ("foyer/ident.inEvents", laid_foyer_ident_inEvents), ("foyer/ident.inPersons", laid_foyer_ident_inPersons), ("unicode/utf8.first", laid_unicode_utf8_first)], narrowed := true }
def IdentPartsUptoSaid : Prop := identPartsUptoRow.holds Tryd.pinned (OpenSpec.upto identPartsSpec)

/-- 'foyerlaw16.IdentKnown', WHERE WHAT IT READS IS OF BULK AT MOST 1048576: true; the input reads as it did. -/
def identKnownUptoRow : OpenClaim := { program := "yteelccgaemmmpaadoor", sum := "67e859ab7a43ea06784004b80ba979a79557b30cdf7710d360ce4c96b866091d", func := "foyer/foyerlaw16.IdentKnown", spec := "identKnown", inPlace := ["internal/bytealg.CountString", "internal/bytealg.IndexByteString", "internal/bytealg.IndexString", "internal/abi.NoEscape", "internal/bytealg.MakeNoZero"], unfollowed := true, recurses := true, named := ["foyer/ident.inEvents", "unicode/utf8.first", "unicode/utf8.acceptRanges", "internal/bytealg.MaxLen", "foyer/ident.inPersons"], apart := false, laid := [("unicode/utf8.acceptRanges", laid_unicode_utf8_acceptRanges), ("foyer/ident.inEvents", laid_foyer_ident_inEvents), ("foyer/ident.inPersons", laid_foyer_ident_inPersons), ("unicode/utf8.first", laid_unicode_utf8_first)], narrowed := true }
def IdentKnownUptoSaid : Prop := identKnownUptoRow.holds Tryd.pinned (OpenSpec.upto identKnownSpec)

end Rows
end Go.Proofs.YteelccgaemmmpaaDoor
