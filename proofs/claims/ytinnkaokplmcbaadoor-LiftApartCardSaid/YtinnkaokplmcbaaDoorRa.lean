/- What the laid table gives, and a world that meets it. -/
import Derived.Test.YtinnkaokplmcbaaDoorRows
import Derived.Test.YtinnkaokplmcbaaDoorTie
import Derived.Test.YtinnkaokplmcbaaDoorCards
import Derived.Test.YtinnkaokplmcbaaDoorB
import Derived.ProofKit
import Derived.LaidMore
import Derived.OpenShut
import Derived.Stop.Joined
import Derived.SizedLaws
import Derived.Lib.SmallJoins
import Derived.SevenTiedAt
namespace Go.Proofs.YtinnkaokplmcbaaDoor
open Go.ChangeShapes Go.WideShapes Go.ChangeAt Go.WideMaps Go.WideElems Go.RowKit
set_option linter.unusedVariables false

theorem own : ownKnob Tryd.prog.godebug = none := by kernel_rfl
theorem laidOut : laidOutB Tryd.prog = true := by kernel_rfl
theorem gP : Tryd.prog.globalNamed "foyer/ident.inPersons" = some 0 := by kernel_rfl
theorem tP : (Tryd.prog.globals[0]?).map (·.type) = some 80 := by kernel_rfl

/-- What is laid in the program's variables, of every row. -/
def laidP {H : Type} : List (String × DataW H) := [("foyer/ident.inPersons", Rows.laid_foyer_ident_inPersons)]

theorem door_met (os : Os) (args : Array Value) : laidMetH Tryd.prog laidP ((World.doorLaid Tryd.prog 400 os).forCall (fun _ _ => 0) ⟨#[], args, []⟩).memory :=
  laidMetH_of_parts3 (fuel := 8) (laidMet_of_run' 8 (by kernel_rfl) (by kernel_rfl)) (by kernel_rfl) (by kernel_rfl)

set_option maxRecDepth 100000 in
theorem gp_of_laid {W : World} (h : laidMetH Tryd.prog laidP W) : GP W := by
  rw [MakeChecks.laidMetH_plain _ _ _ (by kernel_rfl)] at h
  obtain ⟨ps, ⟨g0, t0, cs0, f0, p0, q0, hg0, ht0, hv0, hd0, _, _⟩, _, _⟩ := h
  obtain rfl := Option.some.inj (gP.symm.trans hg0)
  obtain rfl := Option.some.inj (tP.symm.trans ht0)
  obtain ⟨xs, m1, rfl, hx1, hlen, hn3, hel⟩ := DataW.trod_array Tryd.underlying80 hd0
  have c1 : Tryd.prog.cellsOf 79 = 2 := by kernel_rfl
  have c5 : Tryd.prog.cellsOf 5 = 1 := by kernel_rfl
  have c72 : Tryd.prog.cellsOf 80 = 2 := by kernel_rfl
  have h0 := hel 0 (by decide)
  rw [c1] at h0
  rw [c72] at hlen
  match xs, hn3, hx1, h0 with
  | [x0], _, hx1, h0 =>
    simp only [Nat.zero_mul, List.drop_zero, List.getElem?_cons_zero] at h0
    obtain ⟨y0, y1, n, hx, hl, r0, r1⟩ := trod_struct2 Tryd.underlying79 h0
    rw [c5] at r0 r1
    obtain ⟨k0, e0, e0', _⟩ := DataW.trod_int Tryd.underlying5 r0
    obtain ⟨k1, e1, e1', _⟩ := DataW.trod_int Tryd.underlying5 r1
    subst hx
    simp only [Prod.mk.injEq, List.map_cons, List.map_nil, e0', e1', Rows.laid_foyer_ident_inPersons] at hx1
    obtain ⟨q0, q1⟩ : k0 = 33 ∧ k1 = 126 := by simpa using hx1.1.symm
    subst q0 q1
    obtain ⟨l1⟩ := cs0
    match l1, hlen, e0, e1, hv0 with
    | [a, b], _, e0, e1, hv0 =>
      simp at e0 e1
      subst e0 e1
      exact ⟨by simpa using World.var?_cell gP hv0 0, by simpa using World.var?_cell gP hv0 1⟩
end Go.Proofs.YtinnkaokplmcbaaDoor
