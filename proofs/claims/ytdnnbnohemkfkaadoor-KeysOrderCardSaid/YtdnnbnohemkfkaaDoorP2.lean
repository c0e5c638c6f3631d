/- fixed's reader: numbers. -/
import Derived.Test.YtdnnbnohemkfkaaDoorP1
namespace Go.Proofs.YtdnnbnohemkfkaaDoor
open Go.RowKit
set_option linter.unusedVariables false

set_option maxRecDepth 100000 in
set_option maxHeartbeats 2000000 in
theorem take8_no (p : Nat) (q : ByteArray) (t : Int) (w : World) (hr : RdR w p q t) (h : q.size < 1) : Calls Tryd.prog 60 #[.pointer (some ⟨p, 0, none⟩)] w fun e w' => e = .returned (.tuple #[.int .u8 0, FV w.heap.size]) ∧ w' = w.alloc (.cells #[.int .i64 3, .int .i64 t] 97) := by
  go_enter Tryd.func60, Tryd.ntmps60
  go_wp2_with (first | (go_at_call 70; refine (width8 _).mono ?_; rintro e w' ⟨rfl, rfl⟩) | (go_at_call 63; refine (ahead_no p q t 1 _ hr h).mono ?_; rintro e w' ⟨rfl, rfl⟩; dsimp only [FV]))
  go_ret2
  exact ⟨rfl, rfl⟩
set_option maxRecDepth 100000 in
set_option maxHeartbeats 2000000 in
theorem take32_no (p : Nat) (q : ByteArray) (t : Int) (w : World) (hr : RdR w p q t) (h : q.size < 4) : Calls Tryd.prog 61 #[.pointer (some ⟨p, 0, none⟩)] w fun e w' => e = .returned (.tuple #[.int .u32 0, FV w.heap.size]) ∧ w' = w.alloc (.cells #[.int .i64 3, .int .i64 t] 97) := by
  go_enter Tryd.func61, Tryd.ntmps61
  go_wp2_with (first | (go_at_call 71; refine (width32 _).mono ?_; rintro e w' ⟨rfl, rfl⟩) | (go_at_call 63; refine (ahead_no p q t 4 _ hr h).mono ?_; rintro e w' ⟨rfl, rfl⟩; dsimp only [FV]))
  go_ret2
  exact ⟨rfl, rfl⟩
end Go.Proofs.YtdnnbnohemkfkaaDoor
