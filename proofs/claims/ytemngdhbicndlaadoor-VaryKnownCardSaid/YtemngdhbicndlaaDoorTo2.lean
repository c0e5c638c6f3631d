/- errors.Is, of no error, and of a fault whose code is the one that is asked for. -/
import Derived.Test.YtemngdhbicndlaaDoorTo1
namespace Go.Proofs.YtemngdhbicndlaaDoor
open Go.RowKit Go.Extern.Stop Go.Stop Go.Extern
set_option linter.unusedVariables false
set_option linter.unusedSimpArgs false

theorem isTypeOf (v : Value) (w : World) : (Extern.ReflectliteType.typeOf #[.iface 27 v]).run Tryd.prog w = .ok (.iface 108 (.agg #[.pointer (some ⟨2, 27, none⟩)])) w := by kernel_rfl
def comparableX := Extern.ReflectliteType.method fun t => do Rtype.noPackHeld "Comparable" t; pure (.bool (← typeInfo t).comparable)
theorem isComparable (w : World) : (comparableX #[.agg #[.pointer (some ⟨2, 27, none⟩)]]).run Tryd.prog w = .ok (.bool true) w := by kernel_rfl
theorem noIs (v : Value) (xT : TypeId) (w : World) : (Instr.typeAssert (.iface 63 v) xT 120 true).run Tryd.prog w = .ok (.tuple #[.nilIface, .bool false]) w := run_typeAssert_lacksB Tryd.underlying120 (by kernel_rfl) (by kernel_rfl) v xT w
theorem hasUnwrap (v : Value) (xT : TypeId) (w : World) : (Instr.typeAssert (.iface 63 v) xT 115 true).run Tryd.prog w = .ok (.tuple #[.iface 63 v, .bool true]) w := run_typeAssert_hasB Tryd.underlying115 (by kernel_rfl) v xT w

set_option maxHeartbeats 1000000 in
theorem is_nil (n : Int) (w : World) : Calls Tryd.prog 28 #[.nilIface, .iface 27 (.int .i64 n)] w fun e w' => e = .returned (.bool false) ∧ w' = w := by
  have hn := run_eql_iface_nil_left (P := Tryd.prog) w 27 (.int .i64 n) Tryd.underlying34
  go_enter Tryd.func28, Tryd.ntmps28
  go_wp2
  go_ret
  exact ⟨rfl, rfl⟩

theorem isMethodComparable (v : Value) (w : World) : (Go.method Tryd.prog.types.size 108 v "Comparable").run Tryd.prog w = .ok (79, v) w := by kernel_rfl
theorem methodUnwrap (v : Value) (w : World) : (Go.method Tryd.prog.types.size 63 v "Unwrap").run Tryd.prog w = .ok (72, v) w := by kernel_rfl
theorem isSize : Tryd.prog.types.size = Tryd.prog.types.size := rfl

set_option maxHeartbeats 1000000 in
theorem unwrap_any (a : Nat) (n : Int) (w : World) (hc : w.cell? ⟨a, 0, none⟩ = some (.int .i64 n)) : Calls Tryd.prog 72 #[.pointer (some ⟨a, 0, none⟩)] w fun e w' => e = .returned (.iface 27 (.int .i64 n)) ∧ w' = w := by
  go_enter Tryd.func72, Tryd.ntmps72
  go_wp2
  go_ret
  exact ⟨rfl, rfl⟩

set_option maxRecDepth 100000 in
set_option maxHeartbeats 4000000 in
theorem is_fault (a : Nat) (n : Int) (w : World) (hc : w.cell? ⟨a, 0, none⟩ = some (.int .i64 n)) : Calls Tryd.prog 28 #[ErrV a, .iface 27 (.int .i64 n)] w fun e w' => e = .returned (.bool true) ∧ w' = w := by
  have h8 := @run_callFunc_extern Tryd.prog 42 _ Extern.ReflectliteType.typeOf Tryd.func42 (by kernel_rfl) (by kernel_rfl) (by kernel_rfl) (by kernel_rfl)
  have h32 := @run_callFunc_extern Tryd.prog 79 _ comparableX Tryd.func79 (by kernel_rfl) (by kernel_rfl) (by kernel_rfl) (by kernel_rfl)
  have tT := isTypeOf
  have cT := isComparable
  have nI := noIs
  have hU := hasUnwrap
  have hty := run_eql_iface_types (P := Tryd.prog) 63 27 (.pointer (some ⟨a, 0, none⟩)) (.int .i64 n) Tryd.underlying34 (by decide) w
  have heq := Lib.run_eql_iface_int (P := Tryd.prog) (k := .i64) w n n Tryd.underlying34 (show (Tryd.prog.info? 27).map (·.comparable) = some true by kernel_rfl) Tryd.underlying27
  unfold ErrV
  go_enter Tryd.func28, Tryd.ntmps28
  go_wp2
  refine wp_loop_rounds 2 ?_
  rw [rounds_succ]
  go_wp2_with (go_at_call 72; refine (unwrap_any a n _ hc).mono ?_; rintro e w' ⟨rfl, rfl⟩)
  rw [rounds_succ]
  go_wp2
  go_ret
  exact ⟨rfl, rfl⟩
end Go.Proofs.YtemngdhbicndlaaDoor
