/- fixed's reader: U8, U32. -/
import Derived.Test.YtbnnemiiodhjbaaDoorP4
namespace Go.Proofs.YtbnnemiiodhjbaaDoor
open Go.RowKit
set_option linter.unusedVariables false

theorem U8_no (p : Nat) (q : ByteArray) (t : Int) (w : World) (hr : RdR w p q t) (h : q.size < 1) : Calls Tryd.prog 13 #[.pointer (some ⟨p, 0, none⟩)] w fun e w' => e = .returned (.tuple #[.int .u8 0, FV w.heap.size]) ∧ w' = w.alloc (.cells #[.int .i64 3, .int .i64 t] 35) := by
  go_enter Tryd.func13, Tryd.ntmps13
  go_wp2_with (go_at_call 31; refine (take8_no p q t _ hr h).mono ?_; rintro e w' ⟨rfl, rfl⟩)
  go_ret2
  exact ⟨rfl, rfl⟩
theorem U8_is (p : Nat) (q : ByteArray) (t : Int) (w : World) (hr : RdR w p q t) (h : 1 ≤ q.size) (hp : p < w.heap.size) (ht : 0 ≤ t ∧ t + 1 < 9223372036854775808) : Calls Tryd.prog 13 #[.pointer (some ⟨p, 0, none⟩)] w fun e w' => e = .returned (.tuple #[.int .u8 (be1 q), .nilIface]) ∧ RdR w' p (dropB q 1) (t + 1) ∧ w.grownBy w' (some p) := by
  go_enter Tryd.func13, Tryd.ntmps13
  go_wp2_with (go_at_call 31; refine (take8_is p q t _ hr h hp ht).mono ?_; rintro e w' ⟨rfl, hr2, hB⟩)
  go_ret2
  exact ⟨rfl, hr2, hB⟩
theorem U32_no (p : Nat) (q : ByteArray) (t : Int) (w : World) (hr : RdR w p q t) (h : q.size < 4) : Calls Tryd.prog 39 #[.pointer (some ⟨p, 0, none⟩)] w fun e w' => e = .returned (.tuple #[.int .u32 0, FV w.heap.size]) ∧ w' = w.alloc (.cells #[.int .i64 3, .int .i64 t] 35) := by
  go_enter Tryd.func39, Tryd.ntmps39
  go_wp2_with (go_at_call 52; refine (take32_no p q t _ hr h).mono ?_; rintro e w' ⟨rfl, rfl⟩)
  go_ret2
  exact ⟨rfl, rfl⟩
theorem U32_is (p : Nat) (q : ByteArray) (t : Int) (w : World) (hr : RdR w p q t) (h : 4 ≤ q.size) (hp : p < w.heap.size) (ht : 0 ≤ t ∧ t + 4 < 9223372036854775808) : Calls Tryd.prog 39 #[.pointer (some ⟨p, 0, none⟩)] w fun e w' => e = .returned (.tuple #[.int .u32 (be4 q), .nilIface]) ∧ RdR w' p (dropB q 4) (t + 4) ∧ w.grownBy w' (some p) := by
  go_enter Tryd.func39, Tryd.ntmps39
  go_wp2_with (go_at_call 52; refine (take32_is p q t _ hr h hp ht).mono ?_; rintro e w' ⟨rfl, hr2, hB⟩)
  go_ret2
  exact ⟨rfl, hr2, hB⟩
end Go.Proofs.YtbnnemiiodhjbaaDoor
