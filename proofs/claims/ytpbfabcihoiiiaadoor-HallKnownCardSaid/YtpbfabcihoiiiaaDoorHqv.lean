/- Nine rows made. -/
import Derived.Test.YtpbfabcihoiiiaaDoorHq1
namespace Go.Proofs.YtpbfabcihoiiiaaDoor
open Go.RowKit
set_option linter.unusedVariables false

theorem make_nine (w : World) : (Instr.makeSlice 22 (.int .i64 9) (.int .i64 9)).run Tryd.prog w = .ok (.slice (some ⟨w.heap.size, 0, none⟩) 9 9) (w.alloc (.cells #[.int .i64 0, .int .u8 0, .int .i64 0, .int .u8 0, .int .i64 0, .int .u8 0, .int .i64 0, .int .u8 0, .int .i64 0, .int .u8 0, .int .i64 0, .int .u8 0, .int .i64 0, .int .u8 0, .int .i64 0, .int .u8 0, .int .i64 0, .int .u8 0] 47)) := by kernel_rfl
theorem RdH.lit {w : World} {b : Nat} {l : List HRow} (h : ∀ (j : Nat) (u : Value), (l.flatMap rowC)[j]? = some u → w.cell? ⟨b, j, none⟩ = some u) (hb : ∀ r ∈ l, rwB r) : RdH w (.slice (some ⟨b, 0, none⟩) l.length l.length) l :=
  ⟨some ⟨b, 0, none⟩, l.length, rfl, Nat.le_refl _, fun k r hk => ⟨hb r (List.mem_of_getElem? hk), b, 0, rfl, by
    rw [Nat.zero_add]
    exact h _ _ ((flat_at rowC 2 (fun _ => rfl) 0 (by omega) l k r hk).trans rfl), by
    rw [Nat.zero_add]
    exact h _ _ ((flat_at rowC 2 (fun _ => rfl) 1 (by omega) l k r hk).trans rfl)⟩⟩
theorem lit_cells {w : World} {b : Nat} {cs : Array Value} {T : TypeId} (l : List Value) (e : cs.toList = l) (h : w.heap[b]? = some (.cells cs T (0, 0))) (j : Nat) (u : Value) (hj : l[j]? = some u) : w.cell? ⟨b, j, none⟩ = some u := by
  rw [cell_of_row _ _ j _ _ _ h, ← Array.getElem?_toList, e]
  exact hj
theorem new_at {W : World} {o : Obj} {n : Nat} (h : n = W.heap.size) : (W.alloc o).heap[n]? = some o := by rw [h]; exact heap_alloc_new _ _
/-- The five halls that may not be, as they are laid. -/
theorem five_halls (A0 : World) : ∃ w4, w4 = ((((A0.alloc (.cells #[.int .i64 0, .int .u8 0, .int .i64 0, .int .u8 0, .int .i64 0, .int .u8 0, .int .i64 0, .int .u8 0, .int .i64 0, .int .u8 0, .int .i64 0, .int .u8 0, .int .i64 0, .int .u8 0, .int .i64 0, .int .u8 0, .int .i64 0, .int .u8 0] 47)).alloc (.cells #[.int .i64 3, .int .u8 1] 47)).alloc (.cells #[.int .i64 (-1), .int .u8 1] 47)).alloc (.cells #[.int .i64 0, .int .u8 0] 47)).alloc (.cells #[.slice none 0 0, .slice (some ⟨A0.heap.size, 0, none⟩) 9 9, .slice (some ⟨A0.heap.size + 1, 0, none⟩) 1 1, .slice (some ⟨A0.heap.size + 1 + 1, 0, none⟩) 1 1, .slice (some ⟨A0.heap.size + 1 + 1 + 1, 0, none⟩) 1 1] 24) ∧ Below A0.heap.size A0 w4 ∧ ∀ k : Nat, k < 5 → ∃ v l, l ∈ noL ∧ w4.cell? ⟨A0.heap.size + 1 + 1 + 1 + 1, k, none⟩ = some v ∧ RdH w4 v l := by
  obtain ⟨A1, h1⟩ : ∃ A1, A1 = A0.alloc (.cells #[.int .i64 0, .int .u8 0, .int .i64 0, .int .u8 0, .int .i64 0, .int .u8 0, .int .i64 0, .int .u8 0, .int .i64 0, .int .u8 0, .int .i64 0, .int .u8 0, .int .i64 0, .int .u8 0, .int .i64 0, .int .u8 0, .int .i64 0, .int .u8 0] 47) := ⟨_, rfl⟩
  obtain ⟨A2, h2⟩ : ∃ A2, A2 = A1.alloc (.cells #[.int .i64 3, .int .u8 1] 47) := ⟨_, rfl⟩
  obtain ⟨A3, h3⟩ : ∃ A3, A3 = A2.alloc (.cells #[.int .i64 (-1), .int .u8 1] 47) := ⟨_, rfl⟩
  obtain ⟨A4, h4⟩ : ∃ A4, A4 = A3.alloc (.cells #[.int .i64 0, .int .u8 0] 47) := ⟨_, rfl⟩
  obtain ⟨A5, h5⟩ : ∃ A5, A5 = A4.alloc (.cells #[.slice none 0 0, .slice (some ⟨A0.heap.size, 0, none⟩) 9 9, .slice (some ⟨A0.heap.size + 1, 0, none⟩) 1 1, .slice (some ⟨A0.heap.size + 1 + 1, 0, none⟩) 1 1, .slice (some ⟨A0.heap.size + 1 + 1 + 1, 0, none⟩) 1 1] 24) := ⟨_, rfl⟩
  have z1 : A1.heap.size = A0.heap.size + 1 := by rw [h1]; simp
  have z2 : A2.heap.size = A0.heap.size + 1 + 1 := by rw [h2, World.size_alloc, z1]
  have z3 : A3.heap.size = A0.heap.size + 1 + 1 + 1 := by rw [h3, World.size_alloc, z2]
  have z4 : A4.heap.size = A0.heap.size + 1 + 1 + 1 + 1 := by rw [h4, World.size_alloc, z3]
  have g : ∀ (A B : World) (o : Obj), B = A.alloc o → A.grownBy B none := fun A B o e => by rw [e]; exact World.grownBy_alloc _ _ none
  have b1 : A1.heap[A0.heap.size]? = some (.cells #[.int .i64 0, .int .u8 0, .int .i64 0, .int .u8 0, .int .i64 0, .int .u8 0, .int .i64 0, .int .u8 0, .int .i64 0, .int .u8 0, .int .i64 0, .int .u8 0, .int .i64 0, .int .u8 0, .int .i64 0, .int .u8 0, .int .i64 0, .int .u8 0] 47 (0, 0)) := by rw [h1]; exact new_at rfl
  have b2 : A2.heap[A0.heap.size + 1]? = some (.cells #[.int .i64 3, .int .u8 1] 47 (0, 0)) := by rw [h2]; exact new_at z1.symm
  have b3 : A3.heap[A0.heap.size + 1 + 1]? = some (.cells #[.int .i64 (-1), .int .u8 1] 47 (0, 0)) := by rw [h3]; exact new_at z2.symm
  have b4 : A4.heap[A0.heap.size + 1 + 1 + 1]? = some (.cells #[.int .i64 0, .int .u8 0] 47 (0, 0)) := by rw [h4]; exact new_at z3.symm
  have b5 : A5.heap[A0.heap.size + 1 + 1 + 1 + 1]? = some (.cells #[.slice none 0 0, .slice (some ⟨A0.heap.size, 0, none⟩) 9 9, .slice (some ⟨A0.heap.size + 1, 0, none⟩) 1 1, .slice (some ⟨A0.heap.size + 1 + 1, 0, none⟩) 1 1, .slice (some ⟨A0.heap.size + 1 + 1 + 1, 0, none⟩) 1 1] 24 (0, 0)) := by rw [h5]; exact new_at z4.symm
  have c1 := row_kept (row_kept (row_kept (row_kept b1 (g _ _ _ h2) (by simp)) (g _ _ _ h3) (by simp)) (g _ _ _ h4) (by simp)) (g _ _ _ h5) (by simp)
  have c2 := row_kept (row_kept (row_kept b2 (g _ _ _ h3) (by simp)) (g _ _ _ h4) (by simp)) (g _ _ _ h5) (by simp)
  have c3 := row_kept (row_kept b3 (g _ _ _ h4) (by simp)) (g _ _ _ h5) (by simp)
  have c4 := row_kept b4 (g _ _ _ h5) (by simp)
  have hB : Below A0.heap.size A0 A5 := by
    have e1 : Below A0.heap.size A0 A1 := by rw [h1]; exact (Below.refl _ _).alloc (Nat.le_refl _) _
    have e2 : Below A0.heap.size A0 A2 := by rw [h2]; exact e1.alloc e1.size _
    have e3 : Below A0.heap.size A0 A3 := by rw [h3]; exact e2.alloc e2.size _
    have e4 : Below A0.heap.size A0 A4 := by rw [h4]; exact e3.alloc e3.size _
    rw [h5]
    exact e4.alloc e4.size _
  have rw1 : ∀ r ∈ noL.flatten, rwB r := by unfold rwB; decide
  have mm : ∀ l ∈ noL, ∀ r ∈ l, rwB r := fun l hl r hr => rw1 r (List.mem_flatten.2 ⟨l, hl, hr⟩)
  refine ⟨A5, by rw [h5, h4, h3, h2, h1], hB, fun k hk => ?_⟩
  match k, hk with
  | 0, _ => exact ⟨_, [], by decide, lit_cells _ rfl b5 0 _ rfl, RdH.nil _⟩
  | 1, _ => exact ⟨_, List.replicate 9 (0, 0), by decide, lit_cells _ rfl b5 1 _ rfl, RdH.lit (lit_cells _ rfl c1) (mm (List.replicate 9 (0, 0)) (by decide))⟩
  | 2, _ => exact ⟨_, [(3, 1)], by decide, lit_cells _ rfl b5 2 _ rfl, RdH.lit (lit_cells _ rfl c2) (mm ([(3, 1)]) (by decide))⟩
  | 3, _ => exact ⟨_, [(-1, 1)], by decide, lit_cells _ rfl b5 3 _ rfl, RdH.lit (lit_cells _ rfl c3) (mm ([(-1, 1)]) (by decide))⟩
  | 4, _ => exact ⟨_, [(0, 0)], by decide, lit_cells _ rfl b5 4 _ rfl, RdH.lit (lit_cells _ rfl c4) (mm ([(0, 0)]) (by decide))⟩
theorem RdP.lits {w : World} {b : Nat} {l : List (Int × Int)} (h : ∀ (j : Nat) (u : Value), (l.flatMap runC)[j]? = some u → w.cell? ⟨b, j, none⟩ = some u) : RdP w (.slice (some ⟨b, 0, none⟩) l.length l.length) l :=
  ⟨some ⟨b, 0, none⟩, l.length, rfl, Nat.le_refl _, fun k r hk => ⟨b, rfl, h _ _ ((flat_at runC 2 (fun _ => rfl) 0 (by omega) l k r hk).trans rfl), h _ _ ((flat_at runC 2 (fun _ => rfl) 1 (by omega) l k r hk).trans rfl)⟩⟩
abbrev fuL : List (Int × Int) := [(0, 8), (8, 8), (17, 1), (19, 2), (22, 1)]
theorem fu_wf : ∀ x ∈ fuL, (Lit.int .i64 x.1).wf = true ∧ (Lit.int .i64 x.2).wf = true := by decide
theorem fu_rows : ∀ r ∈ ([(0, 255), (0, 255), (0, 90)] : List HRow), rwB r := by unfold rwB; decide
theorem nn_rows : ∀ r ∈ ([(-1, 1)] : List HRow), rwB r := by unfold rwB; decide
end Go.Proofs.YtpbfabcihoiiiaaDoor
