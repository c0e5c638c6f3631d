/- Records that lie at blocks. -/
import Derived.Test.YtinnkaokplmcbaaDoorLd
namespace Go.Proofs.YtinnkaokplmcbaaDoor
open Go.RowKit
set_option linter.unusedVariables false

/-- A record lies at a block. -/
def At (W : World) (b : Nat) (r : Rec) : Prop := W.cell? ⟨b, 0, none⟩ = some (.bool r.hold) ∧ W.cell? ⟨b, 1, none⟩ = some (.int .u32 r.id) ∧ W.cell? ⟨b, 2, none⟩ = some (.string r.person) ∧ W.cell? ⟨b, 3, none⟩ = some (.int .i64 r.cls) ∧ W.cell? ⟨b, 4, none⟩ = some (.int .i64 r.seat) ∧ W.cell? ⟨b, 5, none⟩ = some (.int .i64 r.was) ∧ W.cell? ⟨b, 6, none⟩ = some (.int .u64 r.til)
theorem At.keep {w W : World} {b : Nat} {r : Rec} (hB : Below w.heap.size w W) (h : At w b r) : At W b r :=
  ⟨keep_cell hB h.1, keep_cell hB h.2.1, keep_cell hB h.2.2.1, keep_cell hB h.2.2.2.1, keep_cell hB h.2.2.2.2.1, keep_cell hB h.2.2.2.2.2.1, keep_cell hB h.2.2.2.2.2.2⟩
theorem At.of_row {w : World} {b : Nat} {r : Rec} {t : TypeId} (h : w.heap[b]? = some (.cells #[.bool r.hold, .int .u32 r.id, .string r.person, .int .i64 r.cls, .int .i64 r.seat, .int .i64 r.was, .int .u64 r.til] t (0, 0))) : At w b r := (row7 h).1
theorem At.new (w : World) (r : Rec) (t : TypeId) : At (w.alloc (.cells #[.bool r.hold, .int .u32 r.id, .string r.person, .int .i64 r.cls, .int .i64 r.seat, .int .i64 r.was, .int .u64 r.til] t)) w.heap.size r := At.of_row (heap_alloc_new w _)
theorem At.set {w : World} {b : Nat} {r : Rec} {a : Addr} {v : Value} (hne : a.block ≠ b) (h : At w b r) : At (w.setCell a v) b r := by
  obtain ⟨h0, h1, h2, h3, h4, h5, h6⟩ := h
  refine ⟨?_, ?_, ?_, ?_, ?_, ?_, ?_⟩ <;> (rw [World.cell?_setCell_other (h := by intro e; exact hne (by rw [e]))]; assumption)
/-- Seven stores, one for each field. -/
abbrev put7 (w : World) (b : Nat) (r : Rec) : World := ((((((w.setCell ⟨b, 0, none⟩ (.bool r.hold)).setCell ⟨b, 1, none⟩ (.int .u32 r.id)).setCell ⟨b, 2, none⟩ (.string r.person)).setCell ⟨b, 3, none⟩ (.int .i64 r.cls)).setCell ⟨b, 4, none⟩ (.int .i64 r.seat)).setCell ⟨b, 5, none⟩ (.int .i64 r.was)).setCell ⟨b, 6, none⟩ (.int .u64 r.til)
theorem At.put {w : World} {b : Nat} {r q : Rec} (h : At w b q) : At (put7 w b r) b r := by
  obtain ⟨h0, h1, h2, h3, h4, h5, h6⟩ := h
  refine ⟨?_, ?_, ?_, ?_, ?_, ?_, ?_⟩ <;> simp [go_sem, put7, h0, h1, h2, h3, h4, h5, h6]
theorem At.put_other {w : World} {b b' : Nat} {r q : Rec} (hne : b' ≠ b) (h : At w b q) : At (put7 w b' r) b q :=
  .set hne (.set hne (.set hne (.set hne (.set hne (.set hne (.set hne h))))))
theorem At.lt {w : World} {b : Nat} {r : Rec} (h : At w b r) : b < w.heap.size := World.block_lt_of_cell? w _ h.1

end Go.Proofs.YtinnkaokplmcbaaDoor
