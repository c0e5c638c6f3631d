/- Worlds in which the blocks of all types but one stay as they are. -/
import Derived.Test.YtemngdhbicndlaaDoorWd
namespace Go.Proofs.YtemngdhbicndlaaDoor
open Go.RowKit
set_option linter.unusedVariables false

/-- The blocks of cells whose type is not e stay as they are. -/
structure KeptT (e : TypeId) (w w' : World) : Prop where
  os : w'.os = w.os
  tape : w'.tape = w.tape
  output : w'.output = w.output
  size : w.heap.size ≤ w'.heap.size
  block : ∀ (k : Nat) (cs : Array Value) (t : TypeId) (fr : Nat × Nat), w.heap[k]? = some (Obj.cells cs t fr) → t ≠ e → w'.heap[k]? = some (Obj.cells cs t fr)
theorem KeptT.refl (e : TypeId) (w : World) : KeptT e w w := ⟨rfl, rfl, rfl, Nat.le_refl _, fun _ _ _ _ h _ => h⟩
theorem KeptT.trans {e : TypeId} {a b c : World} (h : KeptT e a b) (k : KeptT e b c) : KeptT e a c :=
  ⟨k.os.trans h.os, k.tape.trans h.tape, k.output.trans h.output, Nat.le_trans h.size k.size, fun i cs t fr hi hn => k.block i cs t fr (h.block i cs t fr hi hn) hn⟩
theorem KeptT.of_below {e : TypeId} {w w' : World} (h : Below w.heap.size w w') : KeptT e w w' :=
  ⟨h.os, h.tape, h.output, h.size, fun k cs t fr hk _ => (h.block k (by
    rcases Nat.lt_or_ge k w.heap.size with h' | h'
    · exact h'
    · rw [Array.getElem?_eq_none h'] at hk
      cases hk)).trans hk⟩
theorem KeptT.cell {e : TypeId} {w w' : World} (h : KeptT e w w') {b j : Nat} {cs : Array Value} {t : TypeId} {fr : Nat × Nat} {v : Value} (hb : w.heap[b]? = some (Obj.cells cs t fr)) (ht : t ≠ e) (hv : cs[j]? = some v) : w'.heap[b]? = some (Obj.cells cs t fr) :=
  h.block b cs t fr hb ht
end Go.Proofs.YtemngdhbicndlaaDoor
