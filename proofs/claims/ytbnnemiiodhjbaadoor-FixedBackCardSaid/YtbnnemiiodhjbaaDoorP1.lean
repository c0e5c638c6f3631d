/- fixed's reader: New, wrong, ahead, skip, Left. -/
import Derived.Test.YtbnnemiiodhjbaaDoorA
import Derived.Lib.Strings
import Derived.Deep.RegionWith
namespace Go.Proofs.YtbnnemiiodhjbaaDoor
open Go.RowKit
set_option linter.unusedVariables false

theorem bstep' {w W W' : World} {b : Nat} (h : Below b w W) (hb : b ≤ w.heap.size) (k : Below W.heap.size W W') : Below b w W' := h.trans (k.mono (Nat.le_trans hb h.size))
theorem keep_cell' {w w' : World} {a : Addr} {v : Value} (h : Below w.heap.size w w') (hc : w.cell? a = some v) : w'.cell? a = some v :=
  (h.cell (World.block_lt_of_cell? _ _ hc)).trans hc

def takeB (q : ByteArray) (n : Nat) : ByteArray := ⟨(q.data.toList.take n).toArray⟩
def dropB (q : ByteArray) (n : Nat) : ByteArray := ⟨(q.data.toList.drop n).toArray⟩
theorem takeB_list (q : ByteArray) (n : Nat) : (takeB q n).data.toList = q.data.toList.take n := rfl
theorem dropB_list (q : ByteArray) (n : Nat) : (dropB q n).data.toList = q.data.toList.drop n := rfl
theorem takeB_size (q : ByteArray) (n : Nat) (h : n ≤ q.size) : (takeB q n).size = n := by
  show (q.data.toList.take n).toArray.size = n
  rw [List.size_toArray, List.length_take, Array.length_toList]
  exact Nat.min_eq_left h
theorem dropB_size (q : ByteArray) (n : Nat) : (dropB q n).size = q.size - n := by
  show (q.data.toList.drop n).toArray.size = _
  rw [List.size_toArray, List.length_drop, Array.length_toList]
  rfl
theorem run_takeB {P : Program} (t : TypeId) (ht : P.underlying t = some .string) (q : ByteArray) (n : Nat) (h1 : n ≤ q.size) (W : World) : (Instr.slice t (.string q) none (some (.int .i64 (n : Int))) none).run P W = .ok (.string (takeB q n)) W := by
  rw [run_slice_string_h W t q ht .i64 n (by omega) (by omega)]
  congr 2
  apply ByteArray.ext
  rw [← Array.toList_inj, Lib.extract_data]
  simp [takeB]
theorem run_dropB {P : Program} (t : TypeId) (ht : P.underlying t = some .string) (q : ByteArray) (n : Nat) (h1 : n ≤ q.size) (W : World) : (Instr.slice t (.string q) (some (.int .i64 (n : Int))) none none).run P W = .ok (.string (dropB q n)) W := by
  rw [run_slice_string_l W t q ht .i64 n (by omega) (by omega)]
  congr 2
  apply ByteArray.ext
  rw [← Array.toList_inj, Lib.extract_data]
  have hsz : q.data.toList.length = q.size := by rw [Array.length_toList]; rfl
  simp only [dropB, Int.toNat_natCast, List.toList_toArray]
  rw [List.take_of_length_le (by rw [List.length_drop, hsz]; exact Nat.le_refl _)]

theorem frozen_new {w : World} {b : Nat} {cs : Array Value} {t : TypeId} (h : w.heap[b]? = some (.cells cs t (0, 0))) (j : Nat) : w.frozen? ⟨b, j, none⟩ = false := by simp [World.frozen?, h]

/-- A reader lies at p: what is left, and how many were taken. -/
structure RdR (w : World) (p : Nat) (q : ByteArray) (t : Int) : Prop where
  c0 : w.cell? ⟨p, 0, none⟩ = some (.string q)
  c1 : w.cell? ⟨p, 1, none⟩ = some (.int .i64 t)
  f0 : w.frozen? ⟨p, 0, none⟩ = false
  f1 : w.frozen? ⟨p, 1, none⟩ = false
/-- A fault. -/
def FV (a : Nat) : Value := .iface 81 (.pointer (some ⟨a, 0, none⟩))

set_option maxHeartbeats 1000000 in
theorem New_any (q : ByteArray) (w : World) : Calls Tryd.prog 16 #[.string q] w fun e w' => e = .returned (.pointer (some ⟨w.heap.size, 0, none⟩)) ∧ RdR w' w.heap.size q 0 ∧ Below w.heap.size w w' ∧ w'.heap.size = w.heap.size + 1 := by
  go_enter Tryd.func16, Tryd.ntmps16
  go_wp2
  go_ret
  refine ⟨rfl, ⟨by go_cell, by go_cell, frozen_new (heap_alloc_new w _) 0, frozen_new (heap_alloc_new w _) 1⟩, by go_grown, by simp⟩

set_option maxHeartbeats 1000000 in
theorem wrong_any (p : Nat) (q : ByteArray) (t code : Int) (w : World) (hr : RdR w p q t) : Calls Tryd.prog 33 #[.pointer (some ⟨p, 0, none⟩), .int .i64 code] w fun e w' => e = .returned (FV w.heap.size) ∧ w' = w.alloc (.cells #[.int .i64 code, .int .i64 t] 35) := by
  have c1 := hr.c1
  go_enter Tryd.func33, Tryd.ntmps33
  go_wp2
  go_ret
  exact ⟨rfl, rfl⟩

set_option maxHeartbeats 1000000 in
theorem ahead_is (p : Nat) (q : ByteArray) (t : Int) (n : Nat) (w : World) (hr : RdR w p q t) (h : n ≤ q.size) : Calls Tryd.prog 34 #[.pointer (some ⟨p, 0, none⟩), .int .i64 n] w fun e w' => e = .returned (.tuple #[.string (takeB q n), .nilIface]) ∧ w' = w := by
  have c0 := hr.c0
  have hs := run_takeB (P := Tryd.prog) 9 Tryd.underlying9 q n h
  have h' : ¬ ((q.size : Int) < (n : Int)) := by omega
  go_enter Tryd.func34, Tryd.ntmps34
  go_wp2
  go_ret2
  exact ⟨rfl, rfl⟩

set_option maxHeartbeats 1000000 in
theorem ahead_no (p : Nat) (q : ByteArray) (t : Int) (n : Nat) (w : World) (hr : RdR w p q t) (h : q.size < n) : Calls Tryd.prog 34 #[.pointer (some ⟨p, 0, none⟩), .int .i64 n] w fun e w' => e = .returned (.tuple #[.string ⟨#[]⟩, FV w.heap.size]) ∧ w' = w.alloc (.cells #[.int .i64 3, .int .i64 t] 35) := by
  have c0 := hr.c0
  have h' : (q.size : Int) < (n : Int) := by omega
  go_enter Tryd.func34, Tryd.ntmps34
  go_wp2_with (go_at_call 33; refine (wrong_any p q t 3 _ hr).mono ?_; rintro e w' ⟨rfl, rfl⟩)
  go_ret2
  exact ⟨rfl, rfl⟩

set_option maxHeartbeats 1000000 in
theorem Left_any (p : Nat) (q : ByteArray) (t : Int) (w : World) (hr : RdR w p q t) : Calls Tryd.prog 20 #[.pointer (some ⟨p, 0, none⟩)] w fun e w' => e = .returned (.int .i64 q.size) ∧ w' = w := by
  have c0 := hr.c0
  go_enter Tryd.func20, Tryd.ntmps20
  go_wp2
  go_ret
  exact ⟨rfl, rfl⟩

set_option maxRecDepth 100000 in
set_option maxHeartbeats 2000000 in
theorem skip_any (p : Nat) (q : ByteArray) (t : Int) (n : Nat) (w : World) (hr : RdR w p q t) (h : n ≤ q.size) (ht : 0 ≤ t ∧ t + n < 9223372036854775808) : Calls Tryd.prog 36 #[.pointer (some ⟨p, 0, none⟩), .int .i64 n] w fun e w' => e = .returned (.tuple #[]) ∧ RdR w' p (dropB q n) (t + n) ∧ w.grownBy w' (some p) ∧ w'.heap.size = w.heap.size := by
  obtain ⟨c0, c1, f0, f1⟩ := hr
  have hs := run_dropB (P := Tryd.prog) 9 Tryd.underlying9 q n h
  go_enter Tryd.func36, Tryd.ntmps36
  go_region_with fail
  all_goals
    refine bodyPost_end (results_none rfl _ _ _) rfl ?_
    have e1 : IntKind.i64.wrap (t + n) = t + n := by simp only [IntKind.wrap_i64]; omega
    rw [e1]
    refine ⟨rfl, ⟨?_, ?_, ?_, ?_⟩, ?_, ?_⟩
  all_goals first | (simp [go_sem, c0, c1, f0, f1]; done) | exact grown_drew (grown_trans (grown_set _ _ _) (grown_set _ _ _)) | exact grown_trans (grown_set _ _ _) (grown_set _ _ _) | skip
end Go.Proofs.YtbnnemiiodhjbaaDoor
