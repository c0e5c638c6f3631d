/- What is drawn: a record. -/
import Derived.Test.YtinnkaokplmcbaaDoorLa
namespace Go.Proofs.YtinnkaokplmcbaaDoor
open Go.RowKit
set_option linter.unusedVariables false

set_option maxRecDepth 100000 in
set_option maxHeartbeats 8000000 in
/-- A record, as it is drawn. -/
theorem drafted_any (hold second : Bool) (id cls seat was til odd : Int) (w : World) (hid : 0 ≤ id ∧ id < 65536) (hcls : 0 ≤ cls ∧ cls < 256) (hseat : -128 ≤ seat ∧ seat < 128) (hwas : -128 ≤ was ∧ was < 128) (htil : 0 ≤ til ∧ til < 18446744073709551616) (hodd : 0 ≤ odd ∧ odd < 256) :
    Calls Tryd.prog 8 #[.agg #[.bool hold, .bool second, .int .u16 id, .int .u8 cls, .int .i8 seat, .int .i8 was, .int .u64 til, .int .u8 odd]] w fun e w' => (∃ r : Rec, e = .returned r.val ∧ r.Ok ∧ (second = false → odd % 16 = 0 → mayR r = true)) ∧ Below w.heap.size w w' := by
  have hp : personB (ByteArray.mk #[112]).data.toList = true := by decide
  have HP := Lib.hid hp
  clear hp
  go_enter Tryd.func8, Tryd.ntmps8
  cases hold <;> cases second
  all_goals go_wp2
  all_goals go_returns
  all_goals refine ⟨?_, by go_grown⟩
  all_goals
    first
    | refine ⟨⟨_, _, _, _, _, _, _⟩, rfl, ⟨by dsimp only; omega, by dsimp only; omega, by dsimp only; omega, by dsimp only; omega, by dsimp only; decide⟩⟩
    | refine ⟨⟨_, _, _, _, _, _, _⟩, rfl, ⟨by dsimp only; omega, by dsimp only; omega, by dsimp only; omega, by dsimp only; omega, by dsimp only; decide⟩, ?_⟩
  all_goals
    intros
    first
    | (exfalso; simp_all; done)
    | (exfalso; simp_all; omega)
    | (simp [mayR, HP.out]; done)
    | (simp [mayR, HP.out]; omega)
end Go.Proofs.YtinnkaokplmcbaaDoor
