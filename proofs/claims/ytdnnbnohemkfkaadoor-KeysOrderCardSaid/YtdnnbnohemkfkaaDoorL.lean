/- The chapter's examples (works). -/
import Derived.Test.YtdnnbnohemkfkaaDoorG
import Derived.Test.YtdnnbnohemkfkaaDoorK
namespace Go.Proofs.YtdnnbnohemkfkaaDoor
open Go.RowKit
set_option linter.unusedVariables false

theorem bstep {w W W' : World} (h : Below w.heap.size w W) (k : Below W.heap.size W W') : Below w.heap.size w W' := h.trans (k.mono h.size)

set_option maxRecDepth 100000 in
set_option maxHeartbeats 8000000 in
theorem works_any (w : World) (hG : GP w) : Calls Tryd.prog 22 #[] w fun e w' => e = .returned (.bool true) ∧ Below w.heap.size w w' := by
  have e1 : kId 2 258 = [2, 0, 0, 1, 2] := by decide
  have e2 : kSeat 1 2 63 = [1, 2, 63] := by decide
  have e3 : kNumber 5 = [0, 0, 0, 5] := by decide
  have e4 : kPerson 0 [98, 111] 7 = [0, 2, 98, 111, 0, 0, 0, 7] := by decide
  have e5 : kPersons 3 [120] = [3, 1, 120] := by decide
  have e6 : kMap 1 1 = [1, 1] := by decide
  have e7 : kEvent 2 = [2] := by decide
  have e8 : kEnd [1, 255] = [2] := by decide
  have e9 : kEnd [255, 255] = [] := by decide
  have e10 : kEnd [] = [] := by decide
  have HB := Below.refl w.heap.size w
  go_enter Tryd.func22, Tryd.ntmps22
  go_wp2_with (first | (go_at_call 8; refine (Id_any _ _ _ (by omega) (by omega)).mono ?_; rintro e w' ⟨rfl, hB⟩; replace HB := bstep HB hB; clear hB) | (go_at_call 10; refine (Seat_any _ _ _ _).mono ?_; rintro e w' ⟨rfl, hB⟩; replace HB := bstep HB hB; clear hB) | (go_at_call 14; refine (Number_any _ _ (by omega) (by omega)).mono ?_; rintro e w' ⟨rfl, hB⟩; replace HB := bstep HB hB; clear hB) | (go_at_call 12; refine (Person_any _ _ _ _ (by omega) (by omega) (hG.below HB) (by decide)).mono ?_; rintro e w' ⟨rfl, hB⟩; replace HB := bstep HB hB; clear hB) | (go_at_call 20; refine (Persons_any _ _ _ (hG.below HB) (by decide)).mono ?_; rintro e w' ⟨rfl, hB⟩; replace HB := bstep HB hB; clear hB) | (go_at_call 18; refine (Map_any _ _ _).mono ?_; rintro e w' ⟨rfl, hB⟩; replace HB := bstep HB hB; clear hB) | (go_at_call 16; refine (Event_any _ _).mono ?_; rintro e w' ⟨rfl, hB⟩; replace HB := bstep HB hB; clear hB) | (go_at_call 23; refine (end_any _ _ (by decide)).mono ?_; rintro e w' ⟨rfl, hB⟩; replace HB := bstep HB hB; clear hB))
  go_ret
  exact ⟨rfl, HB⟩
end Go.Proofs.YtdnnbnohemkfkaaDoor
