/- The world behind a text that became bytes. -/
import Derived.Test.YtbnnemiiodhjbaaDoorWd
namespace Go.Proofs.YtbnnemiiodhjbaaDoor
open Go.RowKit

theorem bytesWorld_below (w : World) (e : TypeId) (s : ByteArray) : Below w.heap.size w (Lib.bytesWorld w e s) :=
  ⟨rfl, rfl, rfl, by rw [Lib.bytesWorld_size]; omega, fun k hk => Lib.bytesWorld_at_old w e s k hk⟩

theorem bytesCells_size (w : World) (e : TypeId) (s : ByteArray) : s.size ≤ (Lib.bytesCells w e s).size := by
  unfold Lib.bytesCells
  rw [Array.size_append, Array.size_map]
  exact Nat.le_add_right _ _

theorem bytesWorld_frozen (w : World) (e : TypeId) (s : ByteArray) (j : Nat) (hj : j < s.size) : (Lib.bytesWorld w e s).frozen? ⟨w.heap.size, j, none⟩ = false := by
  have h1 := Lib.bytesWorld_at_new w e s
  have h2 := bytesCells_size w e s
  simp [World.frozen?, h1]
  omega
end Go.Proofs.YtbnnemiiodhjbaaDoor
