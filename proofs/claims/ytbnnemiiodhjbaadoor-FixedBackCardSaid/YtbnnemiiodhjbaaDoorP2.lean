/- fixed's reader: numbers. -/
import Derived.Test.YtbnnemiiodhjbaaDoorP1
namespace Go.Proofs.YtbnnemiiodhjbaaDoor
open Go.RowKit
set_option linter.unusedVariables false

set_option maxRecDepth 100000 in
set_option maxHeartbeats 2000000 in
theorem take8_no (p : Nat) (q : ByteArray) (t : Int) (w : World) (hr : RdR w p q t) (h : q.size < 1) : Calls Tryd.prog 31 #[.pointer (some ⟨p, 0, none⟩)] w fun e w' => e = .returned (.tuple #[.int .u8 0, FV w.heap.size]) ∧ w' = w.alloc (.cells #[.int .i64 3, .int .i64 t] 35) := by
  go_enter Tryd.func31, Tryd.ntmps31
  go_wp2_with (first | (go_at_call 43; refine (width8 _).mono ?_; rintro e w' ⟨rfl, rfl⟩) | (go_at_call 34; refine (ahead_no p q t 1 _ hr h).mono ?_; rintro e w' ⟨rfl, rfl⟩; dsimp only [FV]))
  go_ret2
  exact ⟨rfl, rfl⟩
set_option maxRecDepth 100000 in
set_option maxHeartbeats 2000000 in
theorem take32_no (p : Nat) (q : ByteArray) (t : Int) (w : World) (hr : RdR w p q t) (h : q.size < 4) : Calls Tryd.prog 52 #[.pointer (some ⟨p, 0, none⟩)] w fun e w' => e = .returned (.tuple #[.int .u32 0, FV w.heap.size]) ∧ w' = w.alloc (.cells #[.int .i64 3, .int .i64 t] 35) := by
  go_enter Tryd.func52, Tryd.ntmps52
  go_wp2_with (first | (go_at_call 54; refine (width32 _).mono ?_; rintro e w' ⟨rfl, rfl⟩) | (go_at_call 34; refine (ahead_no p q t 4 _ hr h).mono ?_; rintro e w' ⟨rfl, rfl⟩; dsimp only [FV]))
  go_ret2
  exact ⟨rfl, rfl⟩
end Go.Proofs.YtbnnemiiodhjbaaDoor
