/- Lists of fields that are alike. -/
import Derived.Test.YtemngdhbicndlaaDoorVb8
import Derived.BigQuiet
import Derived.Deep.QuietTactic
namespace Go.Proofs.YtemngdhbicndlaaDoor
open Go.RowKit
set_option linter.unusedVariables false
set_option linter.unusedSimpArgs false

theorem neq_self (f : Fd) (W : World) : (binOp .neq 50 (.agg #[.int .i64 f.tag, .bool f.isT, .int .u64 (f.n : Nat), .string f.s]) (.agg #[.int .i64 f.tag, .bool f.isT, .int .u64 (f.n : Nat), .string f.s])).run Tryd.prog W = .ok (.bool false) W := by
  rw [fd_neq]
  simp
set_option maxRecDepth 100000 in
set_option maxHeartbeats 1000000 in
theorem same_any (l : List Fd) (v u : Value) (w : World) (hv : RdV w v l) (hu : RdV w u l) (hml : l.length ≤ 1000000) :
    Calls Tryd.prog 14 #[v, u] w fun e w' => e = .returned (.bool true) ∧ Below w.heap.size w w' := by
  obtain ⟨a, c, rfl, hc, hr⟩ := hv.opn
  obtain ⟨a2, c2, rfl, hc2, hr2⟩ := hu.opn
  have HR := Lib.hid hr
  have HR2 := Lib.hid hr2
  clear hr hv hr2 hu
  go_enter Tryd.func14, Tryd.ntmps14
  go_wp2_with fail
  go_loopw [5] (fun kv wr => ∃ (k : Nat), k ≤ l.length ∧ kv = .int .i64 k ∧ Hid (Below w.heap.size w wr)) (fun kv _ => l.length - (intOf kv).toNat)
  case atStart => exact ⟨0, Nat.zero_le _, rfl, Below.refl _ _⟩
  case round =>
    obtain ⟨k, hk, rfl, HB⟩ := hrel
    by_cases hkl : k < l.length
    · obtain ⟨f, hf⟩ : ∃ f, l[k]? = some f := ⟨l[k], List.getElem?_eq_getElem hkl⟩
      obtain ⟨b, o, rfl, hcs⟩ := HR.out k f hf
      obtain ⟨b2, o2, rfl, hcs2⟩ := HR2.out k f hf
      have c0 := keepC HB.out (hcs 0 _ rfl)
      have c1 := keepC HB.out (hcs 1 _ rfl)
      have c2 := keepC HB.out (hcs 2 _ rfl)
      have c3 := keepC HB.out (hcs 3 _ rfl)
      have d0 := keepC HB.out (hcs2 0 _ rfl)
      have d1 := keepC HB.out (hcs2 1 _ rfl)
      have d2 := keepC HB.out (hcs2 2 _ rfl)
      have d3 := keepC HB.out (hcs2 3 _ rfl)
      rw [Nat.add_zero] at c0 d0
      have hq := fun W => neq_self f W
      have hk0 : (0 : Int) ≤ (k : Int) := by omega
      have hk1 : (k : Int) < (l.length : Int) := by omega
      clear hf hcs hcs2
      go_wp2_with fail
      go_quiet (fail)
      have HBQ := Lib.hid (below_drewN HB.out nq)
      go_wp2_with fail
      go_roundw
      case rel => exact ⟨k + 1, by omega, by go_num, HBQ.out⟩
      case measure => simp [intOf]; omega
    · obtain rfl : k = l.length := by omega
      go_wp2_with fail
      go_ret
      exact ⟨rfl, HB.out⟩
set_option maxRecDepth 100000 in
set_option maxHeartbeats 1000000 in
theorem alike_any (l : List Fd) (v u : Value) (w : World) (hv : RdV w v l) (hu : RdV w u l) (hml : l.length ≤ 1000000) :
    Calls Tryd.prog 17 #[v, u] w fun e w' => e = .returned (.bool true) ∧ Below w.heap.size w w' := by
  obtain ⟨a, c, rfl, hc, hr⟩ := hv.opn
  obtain ⟨a2, c2, rfl, hc2, hr2⟩ := hu.opn
  have HR := Lib.hid hr
  have HR2 := Lib.hid hr2
  clear hr hv hr2 hu
  go_enter Tryd.func17, Tryd.ntmps17
  go_wp2_with fail
  go_loopw [5] (fun kv wr => ∃ (k : Nat), k ≤ l.length ∧ kv = .int .i64 k ∧ Hid (Below w.heap.size w wr)) (fun kv _ => l.length - (intOf kv).toNat)
  case atStart => exact ⟨0, Nat.zero_le _, rfl, Below.refl _ _⟩
  case round =>
    obtain ⟨k, hk, rfl, HB⟩ := hrel
    by_cases hkl : k < l.length
    · obtain ⟨f, hf⟩ : ∃ f, l[k]? = some f := ⟨l[k], List.getElem?_eq_getElem hkl⟩
      obtain ⟨b, o, rfl, hcs⟩ := HR.out k f hf
      obtain ⟨b2, o2, rfl, hcs2⟩ := HR2.out k f hf
      have c0 := keepC HB.out (hcs 0 _ rfl)
      have c1 := keepC HB.out (hcs 1 _ rfl)
      have c2 := keepC HB.out (hcs 2 _ rfl)
      have c3 := keepC HB.out (hcs 3 _ rfl)
      have d0 := keepC HB.out (hcs2 0 _ rfl)
      have d1 := keepC HB.out (hcs2 1 _ rfl)
      have d2 := keepC HB.out (hcs2 2 _ rfl)
      have d3 := keepC HB.out (hcs2 3 _ rfl)
      rw [Nat.add_zero] at c0 d0
      have hq := fun W => neq_self f W
      have hk0 : (0 : Int) ≤ (k : Int) := by omega
      have hk1 : (k : Int) < (l.length : Int) := by omega
      clear hf hcs hcs2
      go_wp2_with fail
      go_quiet (fail)
      have HBQ := Lib.hid (below_drewN HB.out nq)
      go_wp2_with fail
      go_roundw
      case rel => exact ⟨k + 1, by omega, by go_num, HBQ.out⟩
      case measure => simp [intOf]; omega
    · obtain rfl : k = l.length := by omega
      go_wp2_with fail
      go_ret
      exact ⟨rfl, HB.out⟩
end Go.Proofs.YtemngdhbicndlaaDoor
