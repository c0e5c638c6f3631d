/- Whether an error is a fault. -/
import Derived.Test.YtbnnemiiodhjbaaDoorTo2
import Derived.Deep.RegionWith
namespace Go.Proofs.YtbnnemiiodhjbaaDoor
open Go.RowKit
set_option linter.unusedVariables false
set_option linter.unusedSimpArgs false

set_option maxHeartbeats 1000000 in
theorem told_nil (c t : Int) (w : World) : Calls Tryd.prog 18 #[.nilIface, .agg #[.int .i64 c, .int .i64 t]] w fun e w' => e = .returned (.bool (c == 0)) ∧ Below w.heap.size w w' := by
  obtain ⟨v, hv⟩ : ∃ v, (c == 0) = v := ⟨_, rfl⟩
  rw [hv]
  cases v
  all_goals
    go_enter Tryd.func18, Tryd.ntmps18
    go_wp2_with fail
    go_ret
    exact ⟨rfl, by go_grown⟩
set_option maxHeartbeats 1000000 in
theorem told_zero (a : Nat) (t : Int) (w : World) : Calls Tryd.prog 18 #[ErrV a, .agg #[.int .i64 0, .int .i64 t]] w fun e w' => e = .returned (.bool false) ∧ Below w.heap.size w w' := by
  unfold ErrV
  go_enter Tryd.func18, Tryd.ntmps18
  go_wp2_with fail
  go_ret
  exact ⟨rfl, by go_grown⟩
theorem keepE {w w' : World} {a : Addr} {v : Value} (h : Below w.heap.size w w') (hc : w.cell? a = some v) : w'.cell? a = some v :=
  (h.cell (World.block_lt_of_cell? _ _ hc)).trans hc
theorem grown_cell {w w' : World} {row : Option Nat} {b o : Nat} {v : Value} (hg : w.grownBy w' row) (hc : w.cell? ⟨b, o, none⟩ = some v) (hne : some b ≠ row) : w'.cell? ⟨b, o, none⟩ = some v :=
  (World.cell?_of_block (hg.block b (World.block_lt_of_cell? _ _ hc) hne)).trans hc

set_option maxRecDepth 100000 in
set_option maxHeartbeats 4000000 in
theorem told_yes (a : Nat) (c t : Int) (w : World) (hc : (c == 0) = false) (h0 : w.cell? ⟨a, 0, none⟩ = some (.int .i64 c)) (h1 : w.cell? ⟨a, 1, none⟩ = some (.int .i64 t)) (hE : EtP w) : Calls Tryd.prog 18 #[ErrV a, .agg #[.int .i64 c, .int .i64 t]] w fun e w' => e = .returned (.bool true) ∧ Below w.heap.size w w' := by
  have hal : a < w.heap.size := World.block_lt_of_cell? _ _ h0
  have hB : Below w.heap.size w ((w.alloc (.cells #[.int .i64 c, .int .i64 t] 35)).alloc (.cells #[.pointer none] 81)) := ((Below.refl _ _).alloc (Nat.le_refl _) _).alloc (by simp) _
  have HB := Lib.hid hB
  have HE := Lib.hid (hE.below hB)
  have k0 := keepE hB h0
  have k1 := keepE hB h1
  have b0 : ((w.alloc (.cells #[.int .i64 c, .int .i64 t] 35)).alloc (.cells #[.pointer none] 81)).cell? ⟨w.heap.size, 0, none⟩ = some (.int .i64 c) := by go_cell
  have b1 : ((w.alloc (.cells #[.int .i64 c, .int .i64 t] 35)).alloc (.cells #[.pointer none] 81)).cell? ⟨w.heap.size, 1, none⟩ = some (.int .i64 t) := by go_cell
  have p0 : ((w.alloc (.cells #[.int .i64 c, .int .i64 t] 35)).alloc (.cells #[.pointer none] 81)).cell? ⟨w.heap.size + 1, 0, none⟩ = some (.pointer none) := by go_cell
  have f0 : ((w.alloc (.cells #[.int .i64 c, .int .i64 t] 35)).alloc (.cells #[.pointer none] 81)).frozen? ⟨w.heap.size + 1, 0, none⟩ = false := by simp
  have hs : ((w.alloc (.cells #[.int .i64 c, .int .i64 t] 35)).alloc (.cells #[.pointer none] 81)).heap.size = w.heap.size + 2 := by simp
  unfold ErrV
  go_enter Tryd.func18, Tryd.ntmps18
  go_wp2_with fail
  generalize (w.alloc (.cells #[.int .i64 c, .int .i64 t] 35)).alloc (.cells #[.pointer none] 81) = w1 at HB HE k0 k1 b0 b1 p0 f0 hs ⊢
  have HP := Lib.hid p0
  have HS := Lib.hid hs
  clear hB p0 hs
  go_region_with (first | (go_at_call 37; refine (as_hit a (w.heap.size + 1) (.pointer none) _ ?_ ?_ ?_).mono ?_; exact HE.out; exact HP.out; exact f0; rintro e w2 ⟨rfl, hc2, hg2⟩; have q0 := grown_cell hg2 k0 (by simp; omega); have q1 := grown_cell hg2 k1 (by simp; omega); have r0 := grown_cell hg2 b0 (by simp); have r1 := grown_cell hg2 b1 (by simp); have HG := Lib.hid hg2; clear hg2) | (go_at_call 35; refine (is_fault a c _ (by assumption)).mono ?_; rintro e w3 ⟨rfl, rfl⟩))
  all_goals
    go_wp2_with fail
    go_ret
    refine ⟨rfl, ?_⟩
    first
    | exact below_grown HB.out HG.out (by omega) (by rw [HS.out]; omega)
    | exact (below_grown HB.out HG.out (by omega) (by rw [HS.out]; omega)).drew
    | exact below_grown HB.out.drew HG.out (by omega) (by show _ < w1.heap.size; rw [HS.out]; omega)
    | exact (below_grown HB.out.drew HG.out (by omega) (by show _ < w1.heap.size; rw [HS.out]; omega)).drew
    | exact (below_grown HB.out.drew HG.out (by omega) (by show _ < w1.heap.size; rw [HS.out]; omega)).drew.drew
end Go.Proofs.YtbnnemiiodhjbaaDoor
