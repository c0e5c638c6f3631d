/- A reader that is none. -/
import Derived.Test.YtbnnemiiodhjbaaDoorFx3
namespace Go.Proofs.YtbnnemiiodhjbaaDoor
open Go.RowKit
set_option linter.unusedVariables false
set_option linter.unusedSimpArgs false

set_option maxHeartbeats 1000000 in
theorem ahead_nil (n : Int) (w : World) : Calls Tryd.prog 34 #[.pointer none, .int .i64 n] w fun e w' => e = .returned (.tuple #[.string ⟨#[]⟩, FV w.heap.size]) ∧ w' = w.alloc (.cells #[.int .i64 1, .int .i64 0] 35) := by
  go_enter Tryd.func34, Tryd.ntmps34
  go_wp2
  go_ret2
  exact ⟨rfl, rfl⟩
set_option maxRecDepth 100000 in
set_option maxHeartbeats 2000000 in
theorem U8_nil (w : World) : Calls Tryd.prog 13 #[.pointer none] w fun e w' => e = .returned (.tuple #[.int .u8 0, FV w.heap.size]) ∧ w' = w.alloc (.cells #[.int .i64 1, .int .i64 0] 35) := by
  have ht : Calls Tryd.prog 31 #[.pointer none] w fun e w' => e = .returned (.tuple #[.int .u8 0, FV w.heap.size]) ∧ w' = w.alloc (.cells #[.int .i64 1, .int .i64 0] 35) := by
    go_enter Tryd.func31, Tryd.ntmps31
    go_wp2_with (first | (go_at_call 43; refine (width8 _).mono ?_; rintro e w' ⟨rfl, rfl⟩) | (go_at_call 34; refine (ahead_nil 1 _).mono ?_; rintro e w' ⟨rfl, rfl⟩; dsimp only [FV]))
    go_ret2
    exact ⟨rfl, rfl⟩
  have HT := Lib.hid ht
  clear ht
  go_enter Tryd.func13, Tryd.ntmps13
  go_wp2_with (go_at_call 31; refine HT.out.mono ?_; rintro e w' ⟨rfl, rfl⟩)
  go_ret2
  exact ⟨rfl, rfl⟩
set_option maxRecDepth 100000 in
set_option maxHeartbeats 2000000 in
theorem U64_nil (w : World) : Calls Tryd.prog 14 #[.pointer none] w fun e w' => e = .returned (.tuple #[.int .u64 0, FV w.heap.size]) ∧ w' = w.alloc (.cells #[.int .i64 1, .int .i64 0] 35) := by
  have ht : Calls Tryd.prog 32 #[.pointer none] w fun e w' => e = .returned (.tuple #[.int .u64 0, FV w.heap.size]) ∧ w' = w.alloc (.cells #[.int .i64 1, .int .i64 0] 35) := by
    go_enter Tryd.func32, Tryd.ntmps32
    go_wp2_with (first | (go_at_call 45; refine (width64 _).mono ?_; rintro e w' ⟨rfl, rfl⟩) | (go_at_call 34; refine (ahead_nil 8 _).mono ?_; rintro e w' ⟨rfl, rfl⟩; dsimp only [FV]))
    go_ret2
    exact ⟨rfl, rfl⟩
  have HT := Lib.hid ht
  clear ht
  go_enter Tryd.func14, Tryd.ntmps14
  go_wp2_with (go_at_call 32; refine HT.out.mono ?_; rintro e w' ⟨rfl, rfl⟩)
  go_ret2
  exact ⟨rfl, rfl⟩
set_option maxRecDepth 100000 in
set_option maxHeartbeats 2000000 in
theorem Text_nil (most : Int) (w : World) : Calls Tryd.prog 15 #[.pointer none, .int .i64 most] w fun e w' => e = .returned (.tuple #[.string ⟨#[]⟩, FV w.heap.size]) ∧ w' = w.alloc (.cells #[.int .i64 1, .int .i64 0] 35) := by
  go_enter Tryd.func15, Tryd.ntmps15
  go_wp2_with (go_at_call 34; refine (ahead_nil 1 _).mono ?_; rintro e w' ⟨rfl, rfl⟩; dsimp only [FV])
  go_ret2
  exact ⟨rfl, rfl⟩
theorem Place_nil (w : World) : Calls Tryd.prog 19 #[.pointer none] w fun e w' => e = .returned (.int .i64 0) ∧ w' = w := by
  go_enter Tryd.func19, Tryd.ntmps19
  go_wp2
  go_ret
  exact ⟨rfl, rfl⟩
theorem Left_nil (w : World) : Calls Tryd.prog 20 #[.pointer none] w fun e w' => e = .returned (.int .i64 0) ∧ w' = w := by
  go_enter Tryd.func20, Tryd.ntmps20
  go_wp2
  go_ret
  exact ⟨rfl, rfl⟩
set_option maxHeartbeats 1000000 in
theorem End_nil (w : World) : Calls Tryd.prog 21 #[.pointer none] w fun e w' => e = .returned (FV w.heap.size) ∧ w' = w.alloc (.cells #[.int .i64 1, .int .i64 0] 35) := by
  go_enter Tryd.func21, Tryd.ntmps21
  go_wp2
  go_ret
  exact ⟨rfl, rfl⟩
theorem err_new (w : World) (c t : Int) (hc : c ≠ 0) : ErrIs (w.alloc (.cells #[.int .i64 c, .int .i64 t] 35)) (FV w.heap.size) c t := .inr ⟨hc, _, rfl, FaultAt.new _ _ _ _⟩
end Go.Proofs.YtbnnemiiodhjbaaDoor
