/-
  NARROWER THAN 'FOR EVERY INPUT', by the rows' own cells (each row's printed sentence says how): VaryReads: laid · VaryBack: laid · VaryOn: laid · VaryPuts: laid · VaryKnown: laid.
  DERIVED. THE GIVEN ROWS OF THIS SEAT. 5 by the template 'for every input the law returns true; each argument reads behind the call as it read before'; 0 by the template 'total and deterministic' (their statements: YtemngdhbicndlaaDoorTotals.lean).
  GIVEN WITH THE SEED: the statements are not yours to turn. If you find one false, say at which input.
  Laid BY PROGRAM, IN A SANDBOX (cutbox-rows.mjs): the forced cells as the released guide's own fill.sh prints them over the translation 85253c0765ec78ad… (all of the seat's roots in one cut). By AI agents, Wed Nov 11 2026. No macro, syntax, notation, axiom, sorry.
-/
import Derived.Test.YtemngdhbicndlaaDoorChecked
import GoSem.Claim
import GoSem.ClaimJoined
import GoSem.ClaimMapViews
import Derived.JoinedTies
import Derived.KernelRfl
namespace Go.Proofs.YtemngdhbicndlaaDoor
/- THE CELL 'sum', in the pinned program and in every row, IS THE sha256 OF THE DUMP (.gsa) THAT YtemngdhbicndlaaDoorProg.lean LOADS. Nothing in Lean hashes anything: it is a label: what it is worth is what the hold of that sum in a sandbox is worth. -/
noncomputable def Tryd.pinned : Pinned := { name := "ytemngdhbicndlaadoor", sum := "85253c0765ec78ad206823f085a6b2ae6b5a619d19a5f4ddc5c8ec4e2d6c4fd3", checked := Tryd.checked }
namespace Rows
def none {H : Type} : Left H := { results := [], args := [] }

/- WHAT THE LISTED PACKAGE-LEVEL VARIABLES READ AS WHEN THE CALL BEGINS. Each datum BY PROGRAM (the guide's laid-datum.mjs) off the statement by which the dump's own 'gosem.cut.vars' lays the variable. In a bare row this is a premise. The card (YtemngdhbicndlaaDoorCards.lean) ties it to the program's text. -/
def laid_errors_errorType {H : Type} : DataW H := .iface "internal/reflectlite.rtype" (.agg [.ptr (.lit (.string [101, 114, 114, 111, 114]))])

/-- 'foyerlaw02.VaryReads': WHATEVER THE INPUT: true; the input reads as it did. -/
def varyReadsSpec : ChangeSpec := { name := "varyReads", fn := fun _ => fun
  | [d1, d2, d3] => { results := [.lit (.bool true)], args := [d1, d2, d3] }
  | _ => none }
def varyReadsRow : OpenClaim := { program := "ytemngdhbicndlaadoor", sum := "85253c0765ec78ad206823f085a6b2ae6b5a619d19a5f4ddc5c8ec4e2d6c4fd3", func := "foyer/foyerlaw02.VaryReads", spec := "varyReads", inPlace := ["internal/reflectlite.ValueOf", "(internal/reflectlite.Value).Type", "(internal/reflectlite.Value).IsNil", "internal/reflectlite.TypeOf", "(internal/reflectlite.Value).Elem", "(internal/reflectlite.Value).Set"], unfollowed := true, recurses := true, named := ["errors.errorType"], apart := false, laid := [("errors.errorType", laid_errors_errorType)] }
def VaryReadsSaid : Prop := varyReadsRow.holds Tryd.pinned (OpenSpec.ofChange varyReadsSpec)

/-- ITS FALSE NEIGHBOUR: 'it returns false'. Refute it at one input. -/
def varyReadsWrong : ChangeSpec := { name := "varyReads", fn := fun _ => fun
  | [d1, d2, d3] => { results := [.lit (.bool false)], args := [d1, d2, d3] }
  | _ => none }
def VaryReadsWrongFalsely : Prop := varyReadsRow.holds Tryd.pinned (OpenSpec.ofChange varyReadsWrong)

/-- 'foyerlaw02.VaryBack': WHATEVER THE INPUT: true; the input reads as it did. -/
def varyBackSpec : ChangeSpec := { name := "varyBack", fn := fun _ => fun
  | [d1, d2, d3] => { results := [.lit (.bool true)], args := [d1, d2, d3] }
  | _ => none }
def varyBackRow : OpenClaim := { program := "ytemngdhbicndlaadoor", sum := "85253c0765ec78ad206823f085a6b2ae6b5a619d19a5f4ddc5c8ec4e2d6c4fd3", func := "foyer/foyerlaw02.VaryBack", spec := "varyBack", inPlace := ["internal/reflectlite.ValueOf", "(internal/reflectlite.Value).Type", "(internal/reflectlite.Value).IsNil", "internal/reflectlite.TypeOf", "(internal/reflectlite.Value).Elem", "(internal/reflectlite.Value).Set"], unfollowed := true, recurses := true, named := ["errors.errorType"], apart := false, laid := [("errors.errorType", laid_errors_errorType)] }
def VaryBackSaid : Prop := varyBackRow.holds Tryd.pinned (OpenSpec.ofChange varyBackSpec)

/-- ITS FALSE NEIGHBOUR: 'it returns false'. Refute it at one input. -/
def varyBackWrong : ChangeSpec := { name := "varyBack", fn := fun _ => fun
  | [d1, d2, d3] => { results := [.lit (.bool false)], args := [d1, d2, d3] }
  | _ => none }
def VaryBackWrongFalsely : Prop := varyBackRow.holds Tryd.pinned (OpenSpec.ofChange varyBackWrong)

/-- 'foyerlaw02.VaryOn': WHATEVER THE INPUT: true; the input reads as it did. -/
def varyOnSpec : ChangeSpec := { name := "varyOn", fn := fun _ => fun
  | [d1, d2] => { results := [.lit (.bool true)], args := [d1, d2] }
  | _ => none }
def varyOnRow : OpenClaim := { program := "ytemngdhbicndlaadoor", sum := "85253c0765ec78ad206823f085a6b2ae6b5a619d19a5f4ddc5c8ec4e2d6c4fd3", func := "foyer/foyerlaw02.VaryOn", spec := "varyOn", inPlace := ["internal/reflectlite.ValueOf", "(internal/reflectlite.Value).Type", "(internal/reflectlite.Value).IsNil", "internal/reflectlite.TypeOf", "(internal/reflectlite.Value).Elem", "(internal/reflectlite.Value).Set"], unfollowed := true, recurses := true, named := ["errors.errorType"], apart := false, laid := [("errors.errorType", laid_errors_errorType)] }
def VaryOnSaid : Prop := varyOnRow.holds Tryd.pinned (OpenSpec.ofChange varyOnSpec)

/-- ITS FALSE NEIGHBOUR: 'it returns false'. Refute it at one input. -/
def varyOnWrong : ChangeSpec := { name := "varyOn", fn := fun _ => fun
  | [d1, d2] => { results := [.lit (.bool false)], args := [d1, d2] }
  | _ => none }
def VaryOnWrongFalsely : Prop := varyOnRow.holds Tryd.pinned (OpenSpec.ofChange varyOnWrong)

/-- 'foyerlaw02.VaryPuts': WHATEVER THE INPUT: true; the input reads as it did. -/
def varyPutsSpec : ChangeSpec := { name := "varyPuts", fn := fun _ => fun
  | [d1, d2, d3] => { results := [.lit (.bool true)], args := [d1, d2, d3] }
  | _ => none }
def varyPutsRow : OpenClaim := { program := "ytemngdhbicndlaadoor", sum := "85253c0765ec78ad206823f085a6b2ae6b5a619d19a5f4ddc5c8ec4e2d6c4fd3", func := "foyer/foyerlaw02.VaryPuts", spec := "varyPuts", inPlace := ["internal/reflectlite.ValueOf", "(internal/reflectlite.Value).Type", "(internal/reflectlite.Value).IsNil", "internal/reflectlite.TypeOf", "(internal/reflectlite.Value).Elem", "(internal/reflectlite.Value).Set"], unfollowed := true, recurses := true, named := ["errors.errorType"], apart := false, laid := [("errors.errorType", laid_errors_errorType)] }
def VaryPutsSaid : Prop := varyPutsRow.holds Tryd.pinned (OpenSpec.ofChange varyPutsSpec)

/-- ITS FALSE NEIGHBOUR: 'it returns false'. Refute it at one input. -/
def varyPutsWrong : ChangeSpec := { name := "varyPuts", fn := fun _ => fun
  | [d1, d2, d3] => { results := [.lit (.bool false)], args := [d1, d2, d3] }
  | _ => none }
def VaryPutsWrongFalsely : Prop := varyPutsRow.holds Tryd.pinned (OpenSpec.ofChange varyPutsWrong)

/-- 'foyerlaw02.VaryKnown': WHATEVER THE INPUT: true; the input reads as it did. -/
def varyKnownSpec : ChangeSpec := { name := "varyKnown", fn := fun _ => fun
  | [] => { results := [.lit (.bool true)], args := [] }
  | _ => none }
def varyKnownRow : OpenClaim := { program := "ytemngdhbicndlaadoor", sum := "85253c0765ec78ad206823f085a6b2ae6b5a619d19a5f4ddc5c8ec4e2d6c4fd3", func := "foyer/foyerlaw02.VaryKnown", spec := "varyKnown", inPlace := ["internal/reflectlite.ValueOf", "(internal/reflectlite.Value).Type", "(internal/reflectlite.Value).IsNil", "internal/reflectlite.TypeOf", "(internal/reflectlite.Value).Elem", "(internal/reflectlite.Value).Set", "internal/abi.NoEscape", "internal/bytealg.MakeNoZero"], unfollowed := true, recurses := true, named := ["errors.errorType"], apart := false, laid := [("errors.errorType", laid_errors_errorType)] }
def VaryKnownSaid : Prop := varyKnownRow.holds Tryd.pinned (OpenSpec.ofChange varyKnownSpec)

/-- ITS FALSE NEIGHBOUR: 'it returns false'. Refute it at one input. -/
def varyKnownWrong : ChangeSpec := { name := "varyKnown", fn := fun _ => fun
  | [] => { results := [.lit (.bool false)], args := [] }
  | _ => none }
def VaryKnownWrongFalsely : Prop := varyKnownRow.holds Tryd.pinned (OpenSpec.ofChange varyKnownWrong)

/- THE SECOND FORM. 'bulk': how many values and letters a reading holds, each counted each time it is reached (what is shared counts as often as it is met; a slice's spare places count too). A statement '..UptoSaid' is the law's where the arguments, and the package variables that the reading takes, are together of bulk at most 1048576: NARROWER than '..Said'. Prove '..Said' where nothing that the law and all that it calls make is longer than what came in: it says more and counts as full. Else prove '..UptoSaid'. A law counts once. -/
mutual
def uptoBulk {H : Type} : DataW H → Nat
  | .lit (.string bytes) => bytes.length + 1
  | .lit _ => 1
  | .nil => 1
  | .ptr d => uptoBulk d + 1
  | .slice elems spare => uptoBulkAll elems + uptoBulkAll spare + 1
  | .agg parts => uptoBulkAll parts + 1
  | .iface _ d => uptoBulk d + 1
  | .map entries => uptoBulkEntries entries + 1
  | .held _ => 1
def uptoBulkAll {H : Type} : List (DataW H) → Nat
  | [] => 0
  | d :: r => uptoBulk d + uptoBulkAll r
def uptoBulkEntries {H : Type} : List (Lit × DataW H) → Nat
  | [] => 0
  | x :: r => uptoBulkEntry x + uptoBulkEntries r
def uptoBulkEntry {H : Type} : Lit × DataW H → Nat
  | (.string bytes, d) => bytes.length + uptoBulk d + 1
  | (_, d) => uptoBulk d + 1
 end
def uptoSmall : (H : Type) → List (DataW H) → Bool := fun _ ds => decide (uptoBulkAll ds ≤ 1048576)
def OpenSpec.upto (s : _root_.Go.ChangeSpec) : _root_.Go.OpenSpec := { _root_.Go.OpenSpec.ofChange s with cond := some uptoSmall }

/-- 'foyerlaw02.VaryReads', WHERE WHAT IT READS IS OF BULK AT MOST 1048576: true; the input reads as it did. -/
def varyReadsUptoRow : OpenClaim := { program := "ytemngdhbicndlaadoor", sum := "85253c0765ec78ad206823f085a6b2ae6b5a619d19a5f4ddc5c8ec4e2d6c4fd3", func := "foyer/foyerlaw02.VaryReads", spec := "varyReads", inPlace := ["internal/reflectlite.ValueOf", "(internal/reflectlite.Value).Type", "(internal/reflectlite.Value).IsNil", "internal/reflectlite.TypeOf", "(internal/reflectlite.Value).Elem", "(internal/reflectlite.Value).Set"], unfollowed := true, recurses := true, named := ["errors.errorType"], apart := false, laid := [("errors.errorType", laid_errors_errorType)], narrowed := true }
def VaryReadsUptoSaid : Prop := varyReadsUptoRow.holds Tryd.pinned (OpenSpec.upto varyReadsSpec)

/-- 'foyerlaw02.VaryBack', WHERE WHAT IT READS IS OF BULK AT MOST 1048576: true; the input reads as it did. -/
def varyBackUptoRow : OpenClaim := { program := "ytemngdhbicndlaadoor", sum := "85253c0765ec78ad206823f085a6b2ae6b5a619d19a5f4ddc5c8ec4e2d6c4fd3", func := "foyer/foyerlaw02.VaryBack", spec := "varyBack", inPlace := ["internal/reflectlite.ValueOf", "(internal/reflectlite.Value).Type", "(internal/reflectlite.Value).IsNil", "internal/reflectlite.TypeOf", "(internal/reflectlite.Value).Elem", "(internal/reflectlite.Value).Set"], unfollowed := true, recurses := true, named := ["errors.errorType"], apart := false, laid := [("errors.errorType", laid_errors_errorType)], narrowed := true }
def VaryBackUptoSaid : Prop := varyBackUptoRow.holds Tryd.pinned (OpenSpec.upto varyBackSpec)

/-- 'foyerlaw02.VaryOn', WHERE WHAT IT READS IS OF BULK AT MOST 1048576: true; the input reads as it did. -/
def varyOnUptoRow : OpenClaim := { program := "ytemngdhbicndlaadoor", sum := "85253c0765ec78ad206823f085a6b2ae6b5a619d19a5f4ddc5c8ec4e2d6c4fd3", func := "foyer/foyerlaw02.VaryOn", spec := "varyOn", inPlace := ["internal/reflectlite.ValueOf", "(internal/reflectlite.Value).Type", "(internal/reflectlite.Value).IsNil", "internal/reflectlite.TypeOf", "(internal/reflectlite.Value).Elem", "(internal/reflectlite.Value).Set"], unfollowed := true, recurses := true, named := ["errors.errorType"], apart := false, laid := [("errors.errorType", laid_errors_errorType)], narrowed := true }
def VaryOnUptoSaid : Prop := varyOnUptoRow.holds Tryd.pinned (OpenSpec.upto varyOnSpec)

/-- 'foyerlaw02.VaryPuts', WHERE WHAT IT READS IS OF BULK AT MOST 1048576: true; the input reads as it did. -/
def varyPutsUptoRow : OpenClaim := { program := "ytemngdhbicndlaadoor", sum := "85253c0765ec78ad206823f085a6b2ae6b5a619d19a5f4ddc5c8ec4e2d6c4fd3", func := "foyer/foyerlaw02.VaryPuts", spec := "varyPuts", inPlace := ["internal/reflectlite.ValueOf", "(internal/reflectlite.Value).Type", "(internal/reflectlite.Value).IsNil", "internal/reflectlite.TypeOf", "(internal/reflectlite.Value).Elem", "(internal/reflectlite.Value).Set"], unfollowed := true, recurses := true, named := ["errors.errorType"], apart := false, laid := [("errors.errorType", laid_errors_errorType)], narrowed := true }
def VaryPutsUptoSaid : Prop := varyPutsUptoRow.holds Tryd.pinned (OpenSpec.upto varyPutsSpec)

/-- 'foyerlaw02.VaryKnown', WHERE WHAT IT READS IS OF BULK AT MOST 1048576: true; the input reads as it did. -/
def varyKnownUptoRow : OpenClaim := { program := "ytemngdhbicndlaadoor", sum := "85253c0765ec78ad206823f085a6b2ae6b5a619d19a5f4ddc5c8ec4e2d6c4fd3", func := "foyer/foyerlaw02.VaryKnown", spec := "varyKnown", inPlace := ["internal/reflectlite.ValueOf", "(internal/reflectlite.Value).Type", "(internal/reflectlite.Value).IsNil", "internal/reflectlite.TypeOf", "(internal/reflectlite.Value).Elem", "(internal/reflectlite.Value).Set", "internal/abi.NoEscape", "internal/bytealg.MakeNoZero"], unfollowed := true, recurses := true, named := ["errors.errorType"], apart := false, laid := [("errors.errorType", laid_errors_errorType)], narrowed := true }
def VaryKnownUptoSaid : Prop := varyKnownUptoRow.holds Tryd.pinned (OpenSpec.upto varyKnownSpec)

end Rows
end Go.Proofs.YtemngdhbicndlaaDoor
