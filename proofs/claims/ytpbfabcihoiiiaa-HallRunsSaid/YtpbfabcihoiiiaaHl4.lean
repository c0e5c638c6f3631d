/- A range over a string whose iterator lies at any block; hall.Read's fault. -/
import Derived.Test.YtpbfabcihoiiiaaHl3
import Derived.Laws.RangeAny
namespace Go.Proofs.Ytpbfabcihoiiiaa
open Go.RowKit
set_option linter.unusedVariables false
set_option linter.unusedSimpArgs false

/-- The iterator at block b has come to p. -/
def setIt (W : World) (b : Nat) (s : ByteArray) (p : Nat) : World := { W with heap := W.heap.setIfInBounds b (.stringIter s p) }
theorem setIt_at {W : World} {b : Nat} {s : ByteArray} {p : Nat} (h : b < W.heap.size) : (setIt W b s p).heap[b]? = some (.stringIter s p) := by simp [setIt, h]
theorem setIt_other {W : World} {b : Nat} {s : ByteArray} {p k : Nat} (h : k ≠ b) : (setIt W b s p).heap[k]? = W.heap[k]? := by
  simp [setIt, Array.getElem?_setIfInBounds_ne (Ne.symm h)]
theorem setIt_size {W : World} {b : Nat} {s : ByteArray} {p : Nat} : (setIt W b s p).heap.size = W.heap.size := by simp [setIt]
theorem setIt_cell {W : World} {b : Nat} {s : ByteArray} {p k j : Nat} (h : k ≠ b) : (setIt W b s p).cell? ⟨k, j, none⟩ = W.cell? ⟨k, j, none⟩ := World.cell?_of_block (setIt_other h)
theorem setIt_frozen {W : World} {b : Nat} {s : ByteArray} {p k j : Nat} (h : k ≠ b) : (setIt W b s p).frozen? ⟨k, j, none⟩ = W.frozen? ⟨k, j, none⟩ := World.frozen?_of_block (setIt_other h)
theorem setIt_below {W : World} {B b : Nat} {s : ByteArray} {p : Nat} (h : B ≤ b) : Below B W (setIt W b s p) :=
  ⟨rfl, rfl, rfl, by rw [setIt_size]; exact Nat.le_refl _, fun k hk => setIt_other (by omega)⟩
theorem run_next_at {P : Program} (W : World) (b : Nat) (s : ByteArray) (pos : Nat) (ty : TypeId) (hb : W.heap[b]? = some (.stringIter s pos)) (h : pos < s.size) :
    (Instr.next (.pointer (some ⟨b, 0, none⟩)) true ty).run P W = .ok (.tuple #[.bool true, .int .i64 pos, .int .i32 (Utf8.decode s pos).1]) (setIt W b s (pos + (Utf8.decode s pos).2)) := by
  simp only [Instr.next, getObj, setObj, Sem.run_bind, Sem.run, hb, Result.andThen, h, if_true]
  have hlt : b < W.heap.size := (Array.getElem?_eq_some_iff.1 hb).1
  simp [goInt, setIt]
theorem run_next_stop {P : Program} (W : World) (b : Nat) (s : ByteArray) (pos : Nat) (ty : TypeId) (hb : W.heap[b]? = some (.stringIter s pos)) (h : ¬ pos < s.size) :
    (Instr.next (.pointer (some ⟨b, 0, none⟩)) true ty).run P W = .ok (.tuple #[.bool false]) W := by
  simp [Instr.next, getObj, Sem.run, hb, h]

/-- A fault. -/
def FV (a : Nat) : Value := .iface 59 (.pointer (some ⟨a, 0, none⟩))
/-- A fault lies at a. -/
def FaultAt (w : World) (a : Nat) (c t : Int) : Prop := w.cell? ⟨a, 0, none⟩ = some (.int .i64 c) ∧ w.cell? ⟨a, 1, none⟩ = some (.int .i64 t)
theorem FaultAt.below {w W : World} {a : Nat} {c t : Int} (h : FaultAt w a c t) (hB : Below w.heap.size w W) : FaultAt W a c t := ⟨keepC hB h.1, keepC hB h.2⟩
theorem FaultAt.new (w : World) (c t : Int) (T : TypeId) : FaultAt (w.alloc (.cells #[.int .i64 c, .int .i64 t] T)) w.heap.size c t :=
  ⟨cell_of_row _ _ 0 _ _ _ (heap_alloc_new w _), cell_of_row _ _ 1 _ _ _ (heap_alloc_new w _)⟩
set_option maxHeartbeats 1000000 in
theorem fault_any (c t : Int) (w : World) : Calls Try.prog 22 #[.int .i64 c, .int .i64 t] w fun e w' => ∃ a, e = .returned (.tuple #[.agg #[.slice none 0 0], FV a]) ∧ FaultAt w' a c t ∧ w.heap.size ≤ a ∧ Below w.heap.size w w' := by
  go_enter Try.func22, Try.ntmps22
  go_wp2_with fail
  refine bodyPost_ret (v := .tuple #[.agg #[.slice none 0 0], FV (w.heap.size + 1)]) (by simp [results, Try.results22, go_sem]; try rfl) rfl ?_
  refine ⟨_, rfl, ⟨?_, ?_⟩, by omega, by go_grown⟩
  · go_cell
  · go_cell
end Go.Proofs.Ytpbfabcihoiiiaa
