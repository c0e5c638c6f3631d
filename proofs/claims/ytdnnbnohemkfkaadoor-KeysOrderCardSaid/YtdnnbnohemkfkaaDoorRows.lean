/-
  NARROWER THAN 'FOR EVERY INPUT', by the rows' own cells (each row's printed sentence says how): KeysLaid: laid · KeysEnds: laid · KeysRead: laid · KeysOrder: laid · KeysKnown: laid.
  DERIVED. THE GIVEN ROWS OF THIS SEAT. 5 by the template 'for every input the law returns true; each argument reads behind the call as it read before'; 0 by the template 'total and deterministic' (their statements: YtdnnbnohemkfkaaDoorTotals.lean).
  GIVEN WITH THE SEED: the statements are not yours to turn. If you find one false, say at which input.
  Laid BY PROGRAM, IN A SANDBOX (cutbox-rows.mjs): the forced cells as the released guide's own fill.sh prints them over the translation d1c7e55529d69e40… (all of the seat's roots in one cut). By AI agents, Wed Nov 11 2026. No macro, syntax, notation, axiom, sorry.
-/
import Derived.Test.YtdnnbnohemkfkaaDoorChecked
import GoSem.Claim
import GoSem.ClaimJoined
import GoSem.ClaimMapViews
import Derived.JoinedTies
import Derived.KernelRfl
namespace Go.Proofs.YtdnnbnohemkfkaaDoor
/- THE CELL 'sum', in the pinned program and in every row, IS THE sha256 OF THE DUMP (.gsa) THAT YtdnnbnohemkfkaaDoorProg.lean LOADS. Nothing in Lean hashes anything: it is a label: what it is worth is what the hold of that sum in a sandbox is worth. -/
noncomputable def Tryd.pinned : Pinned := { name := "ytdnnbnohemkfkaadoor", sum := "d1c7e55529d69e4088749d94c38e5faefb17a52220e61231349b6d45b15ea233", checked := Tryd.checked }
namespace Rows
def none {H : Type} : Left H := { results := [], args := [] }

/- WHAT THE LISTED PACKAGE-LEVEL VARIABLES READ AS WHEN THE CALL BEGINS. Each datum BY PROGRAM (the guide's laid-datum.mjs) off the statement by which the dump's own 'gosem.cut.vars' lays the variable. In a bare row this is a premise. The card (YtdnnbnohemkfkaaDoorCards.lean) ties it to the program's text. -/
def laid_foyer_ident_inPersons {H : Type} : DataW H := .agg [.agg [.lit (.int .u8 33), .lit (.int .u8 126)]]

/-- 'foyerlaw17.KeysLaid': WHATEVER THE INPUT: true; the input reads as it did. -/
def keysLaidSpec : ChangeSpec := { name := "keysLaid", fn := fun _ => fun
  | [d1, d2, d3] => { results := [.lit (.bool true)], args := [d1, d2, d3] }
  | _ => none }
def keysLaidRow : OpenClaim := { program := "ytdnnbnohemkfkaadoor", sum := "d1c7e55529d69e4088749d94c38e5faefb17a52220e61231349b6d45b15ea233", func := "foyer/foyerlaw17.KeysLaid", spec := "keysLaid", unfollowed := true, recurses := true, named := ["foyer/ident.inPersons"], apart := false, laid := [("foyer/ident.inPersons", laid_foyer_ident_inPersons)] }
def KeysLaidSaid : Prop := keysLaidRow.holds Tryd.pinned (OpenSpec.ofChange keysLaidSpec)

/-- ITS FALSE NEIGHBOUR: 'it returns false'. Refute it at one input. -/
def keysLaidWrong : ChangeSpec := { name := "keysLaid", fn := fun _ => fun
  | [d1, d2, d3] => { results := [.lit (.bool false)], args := [d1, d2, d3] }
  | _ => none }
def KeysLaidWrongFalsely : Prop := keysLaidRow.holds Tryd.pinned (OpenSpec.ofChange keysLaidWrong)

/-- 'foyerlaw17.KeysEnds': WHATEVER THE INPUT: true; the input reads as it did. -/
def keysEndsSpec : ChangeSpec := { name := "keysEnds", fn := fun _ => fun
  | [d1, d2, d3] => { results := [.lit (.bool true)], args := [d1, d2, d3] }
  | _ => none }
def keysEndsRow : OpenClaim := { program := "ytdnnbnohemkfkaadoor", sum := "d1c7e55529d69e4088749d94c38e5faefb17a52220e61231349b6d45b15ea233", func := "foyer/foyerlaw17.KeysEnds", spec := "keysEnds", unfollowed := true, recurses := true, named := ["foyer/ident.inPersons"], apart := false, laid := [("foyer/ident.inPersons", laid_foyer_ident_inPersons)] }
def KeysEndsSaid : Prop := keysEndsRow.holds Tryd.pinned (OpenSpec.ofChange keysEndsSpec)

/-- ITS FALSE NEIGHBOUR: 'it returns false'. Refute it at one input. -/
def keysEndsWrong : ChangeSpec := { name := "keysEnds", fn := fun _ => fun
  | [d1, d2, d3] => { results := [.lit (.bool false)], args := [d1, d2, d3] }
  | _ => none }
def KeysEndsWrongFalsely : Prop := keysEndsRow.holds Tryd.pinned (OpenSpec.ofChange keysEndsWrong)

/-- 'foyerlaw17.KeysRead': WHATEVER THE INPUT: true; the input reads as it did. -/
def keysReadSpec : ChangeSpec := { name := "keysRead", fn := fun _ => fun
  | [d1, d2, d3] => { results := [.lit (.bool true)], args := [d1, d2, d3] }
  | _ => none }
def keysReadRow : OpenClaim := { program := "ytdnnbnohemkfkaadoor", sum := "d1c7e55529d69e4088749d94c38e5faefb17a52220e61231349b6d45b15ea233", func := "foyer/foyerlaw17.KeysRead", spec := "keysRead", inPlace := ["internal/reflectlite.TypeOf"], unfollowed := true, recurses := true, named := ["foyer/ident.inPersons"], apart := false, laid := [("foyer/ident.inPersons", laid_foyer_ident_inPersons)] }
def KeysReadSaid : Prop := keysReadRow.holds Tryd.pinned (OpenSpec.ofChange keysReadSpec)

/-- ITS FALSE NEIGHBOUR: 'it returns false'. Refute it at one input. -/
def keysReadWrong : ChangeSpec := { name := "keysRead", fn := fun _ => fun
  | [d1, d2, d3] => { results := [.lit (.bool false)], args := [d1, d2, d3] }
  | _ => none }
def KeysReadWrongFalsely : Prop := keysReadRow.holds Tryd.pinned (OpenSpec.ofChange keysReadWrong)

/-- 'foyerlaw17.KeysOrder': WHATEVER THE INPUT: true; the input reads as it did. -/
def keysOrderSpec : ChangeSpec := { name := "keysOrder", fn := fun _ => fun
  | [d1, d2] => { results := [.lit (.bool true)], args := [d1, d2] }
  | _ => none }
def keysOrderRow : OpenClaim := { program := "ytdnnbnohemkfkaadoor", sum := "d1c7e55529d69e4088749d94c38e5faefb17a52220e61231349b6d45b15ea233", func := "foyer/foyerlaw17.KeysOrder", spec := "keysOrder", inPlace := ["internal/reflectlite.TypeOf"], unfollowed := true, recurses := true, named := ["foyer/ident.inPersons"], apart := false, laid := [("foyer/ident.inPersons", laid_foyer_ident_inPersons)] }
def KeysOrderSaid : Prop := keysOrderRow.holds Tryd.pinned (OpenSpec.ofChange keysOrderSpec)

/-- ITS FALSE NEIGHBOUR: 'it returns false'. Refute it at one input. -/
def keysOrderWrong : ChangeSpec := { name := "keysOrder", fn := fun _ => fun
  | [d1, d2] => { results := [.lit (.bool false)], args := [d1, d2] }
  | _ => none }
def KeysOrderWrongFalsely : Prop := keysOrderRow.holds Tryd.pinned (OpenSpec.ofChange keysOrderWrong)

/-- 'foyerlaw17.KeysKnown': WHATEVER THE INPUT: true; the input reads as it did. -/
def keysKnownSpec : ChangeSpec := { name := "keysKnown", fn := fun _ => fun
  | [] => { results := [.lit (.bool true)], args := [] }
  | _ => none }
def keysKnownRow : OpenClaim := { program := "ytdnnbnohemkfkaadoor", sum := "d1c7e55529d69e4088749d94c38e5faefb17a52220e61231349b6d45b15ea233", func := "foyer/foyerlaw17.KeysKnown", spec := "keysKnown", inPlace := ["internal/reflectlite.TypeOf"], unfollowed := true, recurses := true, named := ["foyer/ident.inPersons"], apart := false, laid := [("foyer/ident.inPersons", laid_foyer_ident_inPersons)] }
def KeysKnownSaid : Prop := keysKnownRow.holds Tryd.pinned (OpenSpec.ofChange keysKnownSpec)

/-- ITS FALSE NEIGHBOUR: 'it returns false'. Refute it at one input. -/
def keysKnownWrong : ChangeSpec := { name := "keysKnown", fn := fun _ => fun
  | [] => { results := [.lit (.bool false)], args := [] }
  | _ => none }
def KeysKnownWrongFalsely : Prop := keysKnownRow.holds Tryd.pinned (OpenSpec.ofChange keysKnownWrong)

/- THE SECOND FORM. 'bulk': how many values and letters a reading holds, each counted each time it is reached (what is shared counts as often as it is met; a slice's spare places count too). A statement '..UptoSaid' is the law's where the arguments, and the package variables that the reading takes, are together of bulk at most 1048576: NARROWER than '..Said'. Prove '..Said' where nothing that the law and all that it calls make is longer than what came in: it says more and counts as full. Else prove '..UptoSaid'. A law counts once. -/
mutual
def uptoBulk {H : Type} : DataW H → Nat
  | .lit (.string bytes) => bytes.length + 1
  | .lit _ => 1
  | .nil => 1
  | .ptr d => uptoBulk d + 1
  | .slice elems spare => uptoBulkAll elems + uptoBulkAll spare + 1
  | .agg parts => uptoBulkAll parts + 1
  | .iface _ d => uptoBulk d + 1
  | .map entries => uptoBulkEntries entries + 1
  | .held _ => 1
def uptoBulkAll {H : Type} : List (DataW H) → Nat
  | [] => 0
  | d :: r => uptoBulk d + uptoBulkAll r
def uptoBulkEntries {H : Type} : List (Lit × DataW H) → Nat
  | [] => 0
  | x :: r => uptoBulkEntry x + uptoBulkEntries r
def uptoBulkEntry {H : Type} : Lit × DataW H → Nat
  | (.string bytes, d) => bytes.length + uptoBulk d + 1
  | (_, d) => uptoBulk d + 1
 end
def uptoSmall : (H : Type) → List (DataW H) → Bool := fun _ ds => decide (uptoBulkAll ds ≤ 1048576)
def OpenSpec.upto (s : _root_.Go.ChangeSpec) : _root_.Go.OpenSpec := { _root_.Go.OpenSpec.ofChange s with cond := some uptoSmall }

/-- 'foyerlaw17.KeysLaid', WHERE WHAT IT READS IS OF BULK AT MOST 1048576: true; the input reads as it did. -/
def keysLaidUptoRow : OpenClaim := { program := "ytdnnbnohemkfkaadoor", sum := "d1c7e55529d69e4088749d94c38e5faefb17a52220e61231349b6d45b15ea233", func := "foyer/foyerlaw17.KeysLaid", spec := "keysLaid", unfollowed := true, recurses := true, named := ["foyer/ident.inPersons"], apart := false, laid := [("foyer/ident.inPersons", laid_foyer_ident_inPersons)], narrowed := true }
def KeysLaidUptoSaid : Prop := keysLaidUptoRow.holds Tryd.pinned (OpenSpec.upto keysLaidSpec)

/-- 'foyerlaw17.KeysEnds', WHERE WHAT IT READS IS OF BULK AT MOST 1048576: true; the input reads as it did. -/
def keysEndsUptoRow : OpenClaim := { program := "ytdnnbnohemkfkaadoor", sum := "d1c7e55529d69e4088749d94c38e5faefb17a52220e61231349b6d45b15ea233", func := "foyer/foyerlaw17.KeysEnds", spec := "keysEnds", unfollowed := true, recurses := true, named := ["foyer/ident.inPersons"], apart := false, laid := [("foyer/ident.inPersons", laid_foyer_ident_inPersons)], narrowed := true }
def KeysEndsUptoSaid : Prop := keysEndsUptoRow.holds Tryd.pinned (OpenSpec.upto keysEndsSpec)

/-- 'foyerlaw17.KeysRead', WHERE WHAT IT READS IS OF BULK AT MOST 1048576: true; the input reads as it did. -/
def keysReadUptoRow : OpenClaim := { program := "ytdnnbnohemkfkaadoor", sum := "d1c7e55529d69e4088749d94c38e5faefb17a52220e61231349b6d45b15ea233", func := "foyer/foyerlaw17.KeysRead", spec := "keysRead", inPlace := ["internal/reflectlite.TypeOf"], unfollowed := true, recurses := true, named := ["foyer/ident.inPersons"], apart := false, laid := [("foyer/ident.inPersons", laid_foyer_ident_inPersons)], narrowed := true }
def KeysReadUptoSaid : Prop := keysReadUptoRow.holds Tryd.pinned (OpenSpec.upto keysReadSpec)

/-- 'foyerlaw17.KeysOrder', WHERE WHAT IT READS IS OF BULK AT MOST 1048576: true; the input reads as it did. -/
def keysOrderUptoRow : OpenClaim := { program := "ytdnnbnohemkfkaadoor", sum := "d1c7e55529d69e4088749d94c38e5faefb17a52220e61231349b6d45b15ea233", func := "foyer/foyerlaw17.KeysOrder", spec := "keysOrder", inPlace := ["internal/reflectlite.TypeOf"], unfollowed := true, recurses := true, named := ["foyer/ident.inPersons"], apart := false, laid := [("foyer/ident.inPersons", laid_foyer_ident_inPersons)], narrowed := true }
def KeysOrderUptoSaid : Prop := keysOrderUptoRow.holds Tryd.pinned (OpenSpec.upto keysOrderSpec)

/-- 'foyerlaw17.KeysKnown', WHERE WHAT IT READS IS OF BULK AT MOST 1048576: true; the input reads as it did. -/
def keysKnownUptoRow : OpenClaim := { program := "ytdnnbnohemkfkaadoor", sum := "d1c7e55529d69e4088749d94c38e5faefb17a52220e61231349b6d45b15ea233", func := "foyer/foyerlaw17.KeysKnown", spec := "keysKnown", inPlace := ["internal/reflectlite.TypeOf"], unfollowed := true, recurses := true, named := ["foyer/ident.inPersons"], apart := false, laid := [("foyer/ident.inPersons", laid_foyer_ident_inPersons)], narrowed := true }
def KeysKnownUptoSaid : Prop := keysKnownUptoRow.holds Tryd.pinned (OpenSpec.upto keysKnownSpec)

end Rows
end Go.Proofs.YtdnnbnohemkfkaaDoor
