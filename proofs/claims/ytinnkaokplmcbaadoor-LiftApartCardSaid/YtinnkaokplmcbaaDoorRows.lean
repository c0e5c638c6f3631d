/-
  NARROWER THAN 'FOR EVERY INPUT', by the rows' own cells (each row's printed sentence says how): LiftUps: laid · LiftBack: laid · LiftLists: laid · LiftApart: laid · LiftKnown: laid.
  DERIVED. THE GIVEN ROWS OF THIS SEAT. 5 by the template 'for every input the law returns true; each argument reads behind the call as it read before'; 0 by the template 'total and deterministic' (their statements: YtinnkaokplmcbaaDoorTotals.lean).
  GIVEN WITH THE SEED: the statements are not yours to turn. If you find one false, say at which input.
  Laid BY PROGRAM, IN A SANDBOX (cutbox-rows.mjs): the forced cells as the released guide's own fill.sh prints them over the translation 6d9bf4809d521f06… (all of the seat's roots in one cut). By AI agents, Wed Nov 11 2026. No macro, syntax, notation, axiom, sorry.
-/
import Derived.Test.YtinnkaokplmcbaaDoorChecked
import GoSem.Claim
import GoSem.ClaimJoined
import GoSem.ClaimMapViews
import Derived.JoinedTies
import Derived.KernelRfl
namespace Go.Proofs.YtinnkaokplmcbaaDoor
/- THE CELL 'sum', in the pinned program and in every row, IS THE sha256 OF THE DUMP (.gsa) THAT YtinnkaokplmcbaaDoorProg.lean LOADS. Nothing in Lean hashes anything: it is a label: what it is worth is what the hold of that sum in a sandbox is worth. -/
noncomputable def Tryd.pinned : Pinned := { name := "ytinnkaokplmcbaadoor", sum := "6d9bf4809d521f06da5fc8f15ccf3e81bb4e3b01755f969c4a366d42ac27a93f", checked := Tryd.checked }
namespace Rows
def none {H : Type} : Left H := { results := [], args := [] }

/- WHAT THE LISTED PACKAGE-LEVEL VARIABLES READ AS WHEN THE CALL BEGINS. Each datum BY PROGRAM (the guide's laid-datum.mjs) off the statement by which the dump's own 'gosem.cut.vars' lays the variable. In a bare row this is a premise. The card (YtinnkaokplmcbaaDoorCards.lean) ties it to the program's text. -/
def laid_foyer_ident_inPersons {H : Type} : DataW H := .agg [.agg [.lit (.int .u8 33), .lit (.int .u8 126)]]

/-- 'foyerlaw22.LiftUps': WHATEVER THE INPUT: true; the input reads as it did. -/
def liftUpsSpec : ChangeSpec := { name := "liftUps", fn := fun _ => fun
  | [d1, d2, d3] => { results := [.lit (.bool true)], args := [d1, d2, d3] }
  | _ => none }
def liftUpsRow : OpenClaim := { program := "ytinnkaokplmcbaadoor", sum := "6d9bf4809d521f06da5fc8f15ccf3e81bb4e3b01755f969c4a366d42ac27a93f", func := "foyer/foyerlaw22.LiftUps", spec := "liftUps", unfollowed := true, recurses := true, named := ["foyer/ident.inPersons"], apart := false, laid := [("foyer/ident.inPersons", laid_foyer_ident_inPersons)] }
def LiftUpsSaid : Prop := liftUpsRow.holds Tryd.pinned (OpenSpec.ofChange liftUpsSpec)

/-- ITS FALSE NEIGHBOUR: 'it returns false'. Refute it at one input. -/
def liftUpsWrong : ChangeSpec := { name := "liftUps", fn := fun _ => fun
  | [d1, d2, d3] => { results := [.lit (.bool false)], args := [d1, d2, d3] }
  | _ => none }
def LiftUpsWrongFalsely : Prop := liftUpsRow.holds Tryd.pinned (OpenSpec.ofChange liftUpsWrong)

/-- 'foyerlaw22.LiftBack': WHATEVER THE INPUT: true; the input reads as it did. -/
def liftBackSpec : ChangeSpec := { name := "liftBack", fn := fun _ => fun
  | [d1, d2] => { results := [.lit (.bool true)], args := [d1, d2] }
  | _ => none }
def liftBackRow : OpenClaim := { program := "ytinnkaokplmcbaadoor", sum := "6d9bf4809d521f06da5fc8f15ccf3e81bb4e3b01755f969c4a366d42ac27a93f", func := "foyer/foyerlaw22.LiftBack", spec := "liftBack", unfollowed := true, recurses := true, named := ["foyer/ident.inPersons"], apart := false, laid := [("foyer/ident.inPersons", laid_foyer_ident_inPersons)] }
def LiftBackSaid : Prop := liftBackRow.holds Tryd.pinned (OpenSpec.ofChange liftBackSpec)

/-- ITS FALSE NEIGHBOUR: 'it returns false'. Refute it at one input. -/
def liftBackWrong : ChangeSpec := { name := "liftBack", fn := fun _ => fun
  | [d1, d2] => { results := [.lit (.bool false)], args := [d1, d2] }
  | _ => none }
def LiftBackWrongFalsely : Prop := liftBackRow.holds Tryd.pinned (OpenSpec.ofChange liftBackWrong)

/-- 'foyerlaw22.LiftLists': WHATEVER THE INPUT: true; the input reads as it did. -/
def liftListsSpec : ChangeSpec := { name := "liftLists", fn := fun _ => fun
  | [d1, d2] => { results := [.lit (.bool true)], args := [d1, d2] }
  | _ => none }
def liftListsRow : OpenClaim := { program := "ytinnkaokplmcbaadoor", sum := "6d9bf4809d521f06da5fc8f15ccf3e81bb4e3b01755f969c4a366d42ac27a93f", func := "foyer/foyerlaw22.LiftLists", spec := "liftLists", unfollowed := true, recurses := true, named := ["foyer/ident.inPersons"], apart := false, laid := [("foyer/ident.inPersons", laid_foyer_ident_inPersons)] }
def LiftListsSaid : Prop := liftListsRow.holds Tryd.pinned (OpenSpec.ofChange liftListsSpec)

/-- ITS FALSE NEIGHBOUR: 'it returns false'. Refute it at one input. -/
def liftListsWrong : ChangeSpec := { name := "liftLists", fn := fun _ => fun
  | [d1, d2] => { results := [.lit (.bool false)], args := [d1, d2] }
  | _ => none }
def LiftListsWrongFalsely : Prop := liftListsRow.holds Tryd.pinned (OpenSpec.ofChange liftListsWrong)

/-- 'foyerlaw22.LiftApart': WHATEVER THE INPUT: true; the input reads as it did. -/
def liftApartSpec : ChangeSpec := { name := "liftApart", fn := fun _ => fun
  | [d1, d2] => { results := [.lit (.bool true)], args := [d1, d2] }
  | _ => none }
def liftApartRow : OpenClaim := { program := "ytinnkaokplmcbaadoor", sum := "6d9bf4809d521f06da5fc8f15ccf3e81bb4e3b01755f969c4a366d42ac27a93f", func := "foyer/foyerlaw22.LiftApart", spec := "liftApart", unfollowed := true, recurses := true, named := ["foyer/ident.inPersons"], apart := false, laid := [("foyer/ident.inPersons", laid_foyer_ident_inPersons)] }
def LiftApartSaid : Prop := liftApartRow.holds Tryd.pinned (OpenSpec.ofChange liftApartSpec)

/-- ITS FALSE NEIGHBOUR: 'it returns false'. Refute it at one input. -/
def liftApartWrong : ChangeSpec := { name := "liftApart", fn := fun _ => fun
  | [d1, d2] => { results := [.lit (.bool false)], args := [d1, d2] }
  | _ => none }
def LiftApartWrongFalsely : Prop := liftApartRow.holds Tryd.pinned (OpenSpec.ofChange liftApartWrong)

/-- 'foyerlaw22.LiftKnown': WHATEVER THE INPUT: true; the input reads as it did. -/
def liftKnownSpec : ChangeSpec := { name := "liftKnown", fn := fun _ => fun
  | [] => { results := [.lit (.bool true)], args := [] }
  | _ => none }
def liftKnownRow : OpenClaim := { program := "ytinnkaokplmcbaadoor", sum := "6d9bf4809d521f06da5fc8f15ccf3e81bb4e3b01755f969c4a366d42ac27a93f", func := "foyer/foyerlaw22.LiftKnown", spec := "liftKnown", unfollowed := true, recurses := true, named := ["foyer/ident.inPersons"], apart := false, laid := [("foyer/ident.inPersons", laid_foyer_ident_inPersons)] }
def LiftKnownSaid : Prop := liftKnownRow.holds Tryd.pinned (OpenSpec.ofChange liftKnownSpec)

/-- ITS FALSE NEIGHBOUR: 'it returns false'. Refute it at one input. -/
def liftKnownWrong : ChangeSpec := { name := "liftKnown", fn := fun _ => fun
  | [] => { results := [.lit (.bool false)], args := [] }
  | _ => none }
def LiftKnownWrongFalsely : Prop := liftKnownRow.holds Tryd.pinned (OpenSpec.ofChange liftKnownWrong)

/- THE SECOND FORM. 'bulk': how many values and letters a reading holds, each counted each time it is reached (what is shared counts as often as it is met; a slice's spare places count too). A statement '..UptoSaid' is the law's where the arguments, and the package variables that the reading takes, are together of bulk at most 1048576: NARROWER than '..Said'. Prove '..Said' where nothing that the law and all that it calls make is longer than what came in: it says more and counts as full. Else prove '..UptoSaid'. A law counts once. -/
mutual
def uptoBulk {H : Type} : DataW H → Nat
  | .lit (.string bytes) => bytes.length + 1
  | .lit _ => 1
  | .nil => 1
  | .ptr d => uptoBulk d + 1
  | .slice elems spare => uptoBulkAll elems + uptoBulkAll spare + 1
  | .agg parts => uptoBulkAll parts + 1
  | .iface _ d => uptoBulk d + 1
  | .map entries => uptoBulkEntries entries + 1
  | .held _ => 1
def uptoBulkAll {H : Type} : List (DataW H) → Nat
  | [] => 0
  | d :: r => uptoBulk d + uptoBulkAll r
def uptoBulkEntries {H : Type} : List (Lit × DataW H) → Nat
  | [] => 0
  | x :: r => uptoBulkEntry x + uptoBulkEntries r
def uptoBulkEntry {H : Type} : Lit × DataW H → Nat
  | (.string bytes, d) => bytes.length + uptoBulk d + 1
  | (_, d) => uptoBulk d + 1
 end
def uptoSmall : (H : Type) → List (DataW H) → Bool := fun _ ds => decide (uptoBulkAll ds ≤ 1048576)
def OpenSpec.upto (s : _root_.Go.ChangeSpec) : _root_.Go.OpenSpec := { _root_.Go.OpenSpec.ofChange s with cond := some uptoSmall }

/-- 'foyerlaw22.LiftUps', WHERE WHAT IT READS IS OF BULK AT MOST 1048576: true; the input reads as it did. -/
def liftUpsUptoRow : OpenClaim := { program := "ytinnkaokplmcbaadoor", sum := "6d9bf4809d521f06da5fc8f15ccf3e81bb4e3b01755f969c4a366d42ac27a93f", func := "foyer/foyerlaw22.LiftUps", spec := "liftUps", unfollowed := true, recurses := true, named := ["foyer/ident.inPersons"], apart := false, laid := [("foyer/ident.inPersons", laid_foyer_ident_inPersons)], narrowed := true }
def LiftUpsUptoSaid : Prop := liftUpsUptoRow.holds Tryd.pinned (OpenSpec.upto liftUpsSpec)

/-- 'foyerlaw22.LiftBack', WHERE WHAT IT READS IS OF BULK AT MOST 1048576: true; the input reads as it did. -/
def liftBackUptoRow : OpenClaim := { program := "ytinnkaokplmcbaadoor", sum := "6d9bf4809d521f06da5fc8f15ccf3e81bb4e3b01755f969c4a366d42ac27a93f", func := "foyer/foyerlaw22.LiftBack", spec := "liftBack", unfollowed := true, recurses := true, named := ["foyer/ident.inPersons"], apart := false, laid := [("foyer/ident.inPersons", laid_foyer_ident_inPersons)], narrowed := true }
def LiftBackUptoSaid : Prop := liftBackUptoRow.holds Tryd.pinned (OpenSpec.upto liftBackSpec)

/-- 'foyerlaw22.LiftLists', WHERE WHAT IT READS IS OF BULK AT MOST 1048576: true; the input reads as it did. -/
def liftListsUptoRow : OpenClaim := { program := "ytinnkaokplmcbaadoor", sum := "6d9bf4809d521f06da5fc8f15ccf3e81bb4e3b01755f969c4a366d42ac27a93f", func := "foyer/foyerlaw22.LiftLists", spec := "liftLists", unfollowed := true, recurses := true, named := ["foyer/ident.inPersons"], apart := false, laid := [("foyer/ident.inPersons", laid_foyer_ident_inPersons)], narrowed := true }
def LiftListsUptoSaid : Prop := liftListsUptoRow.holds Tryd.pinned (OpenSpec.upto liftListsSpec)

/-- 'foyerlaw22.LiftApart', WHERE WHAT IT READS IS OF BULK AT MOST 1048576: true; the input reads as it did. -/
def liftApartUptoRow : OpenClaim := { program := "ytinnkaokplmcbaadoor", sum := "6d9bf4809d521f06da5fc8f15ccf3e81bb4e3b01755f969c4a366d42ac27a93f", func := "foyer/foyerlaw22.LiftApart", spec := "liftApart", unfollowed := true, recurses := true, named := ["foyer/ident.inPersons"], apart := false, laid := [("foyer/ident.inPersons", laid_foyer_ident_inPersons)], narrowed := true }
def LiftApartUptoSaid : Prop := liftApartUptoRow.holds Tryd.pinned (OpenSpec.upto liftApartSpec)

/-- 'foyerlaw22.LiftKnown', WHERE WHAT IT READS IS OF BULK AT MOST 1048576: true; the input reads as it did. -/
def liftKnownUptoRow : OpenClaim := { program := "ytinnkaokplmcbaadoor", sum := "6d9bf4809d521f06da5fc8f15ccf3e81bb4e3b01755f969c4a366d42ac27a93f", func := "foyer/foyerlaw22.LiftKnown", spec := "liftKnown", unfollowed := true, recurses := true, named := ["foyer/ident.inPersons"], apart := false, laid := [("foyer/ident.inPersons", laid_foyer_ident_inPersons)], narrowed := true }
def LiftKnownUptoSaid : Prop := liftKnownUptoRow.holds Tryd.pinned (OpenSpec.upto liftKnownSpec)

end Rows
end Go.Proofs.YtinnkaokplmcbaaDoor
