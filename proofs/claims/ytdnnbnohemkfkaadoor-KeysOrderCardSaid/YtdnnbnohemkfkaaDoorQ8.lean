/- Both read alike. -/
import Derived.Test.YtdnnbnohemkfkaaDoorQ7
import Derived.Test.YtdnnbnohemkfkaaDoorQ6
namespace Go.Proofs.YtdnnbnohemkfkaaDoor
open Go.RowKit
set_option linter.unusedVariables false

set_option maxRecDepth 100000 in
set_option maxHeartbeats 4000000 in
theorem alike_any (q : ByteArray) (w : World) (hG : GP w) (hq : q.size ≤ 140737488351232) : Calls Tryd.prog 25 #[.string q] w fun e w' => e = .returned (.bool true) ∧ Below w.heap.size w w' := by
  have HB := Below.refl w.heap.size w
  go_enter Tryd.func25, Tryd.ntmps25
  go_wp2_with (first | (go_at_call 26; refine (ReadId_any _ _).mono ?_; rintro e w1 ⟨rfl, hB⟩; replace HB := HB.trans (hB.mono HB.size); clear hB) | (go_at_call 41; refine (rReadId_any _ _ hq).mono ?_; rintro e w1 ⟨rfl, hB⟩; replace HB := HB.trans (hB.mono HB.size); clear hB) | (go_at_call 27; refine (ReadSeat_any _ _ hq).mono ?_; rintro e w1 ⟨he, hB⟩; rw [stV_eq] at he; subst he; replace HB := HB.trans (hB.mono HB.size); clear hB) | (go_at_call 42; refine (rReadSeat_any _ _ hq).mono ?_; rintro e w1 ⟨rfl, hB⟩; replace HB := HB.trans (hB.mono HB.size); clear hB) | (go_at_call 30; refine (ReadPerson_any _ _ (hG.below HB) hq).mono ?_; rintro e w1 ⟨he, hB⟩; rw [perV_eq] at he; unfold perV at he; subst he; replace HB := HB.trans (hB.mono HB.size); clear hB) | (go_at_call 43; refine (rReadPerson_any _ _ hq).mono ?_; rintro e w1 ⟨rfl, hB⟩; replace HB := HB.trans (hB.mono HB.size); clear hB) | (go_at_call 28; refine (ReadNumber_any _ _).mono ?_; rintro e w1 ⟨rfl, hB⟩; replace HB := HB.trans (hB.mono HB.size); clear hB) | (go_at_call 44; refine (rReadNumber_any _ _ hq).mono ?_; rintro e w1 ⟨rfl, rfl⟩) | (go_at_call 23; refine (end_any _ _ hq).mono ?_; rintro e w1 ⟨rfl, hB⟩; replace HB := HB.trans (hB.mono HB.size); clear hB) | (go_at_call 45; refine (rEnd_any _ _ hq).mono ?_; rintro e w1 ⟨rfl, hB⟩; replace HB := HB.trans (hB.mono HB.size); clear hB))
  go_returns
  exact ⟨rfl, HB⟩
end Go.Proofs.YtdnnbnohemkfkaaDoor
