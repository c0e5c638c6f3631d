/- errors.Is, of no error, and of a fault whose code is the one that is asked for. -/
import Derived.Test.YtbnnemiiodhjbaaDoorTo1
namespace Go.Proofs.YtbnnemiiodhjbaaDoor
open Go.RowKit Go.Extern.Stop Go.Stop Go.Extern
set_option linter.unusedVariables false
set_option linter.unusedSimpArgs false

theorem isTypeOf (v : Value) (w : World) : (Extern.ReflectliteType.typeOf #[.iface 33 v]).run Tryd.prog w = .ok (.iface 104 (.agg #[.pointer (some ⟨1, 33, none⟩)])) w := by kernel_rfl
def comparableX := Extern.ReflectliteType.method fun t => do Rtype.noPackHeld "Comparable" t; pure (.bool (← typeInfo t).comparable)
theorem isComparable (w : World) : (comparableX #[.agg #[.pointer (some ⟨1, 33, none⟩)]]).run Tryd.prog w = .ok (.bool true) w := by kernel_rfl
theorem noIs (v : Value) (xT : TypeId) (w : World) : (Instr.typeAssert (.iface 81 v) xT 106 true).run Tryd.prog w = .ok (.tuple #[.nilIface, .bool false]) w := run_typeAssert_lacksB Tryd.underlying106 (by kernel_rfl) (by kernel_rfl) v xT w
theorem hasUnwrap (v : Value) (xT : TypeId) (w : World) : (Instr.typeAssert (.iface 81 v) xT 109 true).run Tryd.prog w = .ok (.tuple #[.iface 81 v, .bool true]) w := run_typeAssert_hasB Tryd.underlying109 (by kernel_rfl) v xT w

set_option maxHeartbeats 1000000 in
theorem is_nil (n : Int) (w : World) : Calls Tryd.prog 35 #[.nilIface, .iface 33 (.int .i64 n)] w fun e w' => e = .returned (.bool false) ∧ w' = w := by
  have hn := run_eql_iface_nil_left (P := Tryd.prog) w 33 (.int .i64 n) Tryd.underlying37
  go_enter Tryd.func35, Tryd.ntmps35
  go_wp2
  go_ret
  exact ⟨rfl, rfl⟩

theorem isMethodComparable (v : Value) (w : World) : (Go.method Tryd.prog.types.size 104 v "Comparable").run Tryd.prog w = .ok (82, v) w := by kernel_rfl
theorem methodUnwrap (v : Value) (w : World) : (Go.method Tryd.prog.types.size 81 v "Unwrap").run Tryd.prog w = .ok (76, v) w := by kernel_rfl
theorem isSize : Tryd.prog.types.size = Tryd.prog.types.size := rfl

set_option maxHeartbeats 1000000 in
theorem unwrap_any (a : Nat) (n : Int) (w : World) (hc : w.cell? ⟨a, 0, none⟩ = some (.int .i64 n)) : Calls Tryd.prog 76 #[.pointer (some ⟨a, 0, none⟩)] w fun e w' => e = .returned (.iface 33 (.int .i64 n)) ∧ w' = w := by
  go_enter Tryd.func76, Tryd.ntmps76
  go_wp2
  go_ret
  exact ⟨rfl, rfl⟩

set_option maxRecDepth 100000 in
set_option maxHeartbeats 4000000 in
theorem is_fault (a : Nat) (n : Int) (w : World) (hc : w.cell? ⟨a, 0, none⟩ = some (.int .i64 n)) : Calls Tryd.prog 35 #[ErrV a, .iface 33 (.int .i64 n)] w fun e w' => e = .returned (.bool true) ∧ w' = w := by
  have h8 := @run_callFunc_extern Tryd.prog 46 _ Extern.ReflectliteType.typeOf Tryd.func46 (by kernel_rfl) (by kernel_rfl) (by kernel_rfl) (by kernel_rfl)
  have h32 := @run_callFunc_extern Tryd.prog 82 _ comparableX Tryd.func82 (by kernel_rfl) (by kernel_rfl) (by kernel_rfl) (by kernel_rfl)
  have tT := isTypeOf
  have cT := isComparable
  have nI := noIs
  have hU := hasUnwrap
  have hty := run_eql_iface_types (P := Tryd.prog) 81 33 (.pointer (some ⟨a, 0, none⟩)) (.int .i64 n) Tryd.underlying37 (by decide) w
  have heq := Lib.run_eql_iface_int (P := Tryd.prog) (k := .i64) w n n Tryd.underlying37 (show (Tryd.prog.info? 33).map (·.comparable) = some true by kernel_rfl) Tryd.underlying33
  unfold ErrV
  go_enter Tryd.func35, Tryd.ntmps35
  go_wp2
  refine wp_loop_rounds 2 ?_
  rw [rounds_succ]
  go_wp2_with (go_at_call 76; refine (unwrap_any a n _ hc).mono ?_; rintro e w' ⟨rfl, rfl⟩)
  rw [rounds_succ]
  go_wp2
  go_ret
  exact ⟨rfl, rfl⟩
end Go.Proofs.YtbnnemiiodhjbaaDoor
