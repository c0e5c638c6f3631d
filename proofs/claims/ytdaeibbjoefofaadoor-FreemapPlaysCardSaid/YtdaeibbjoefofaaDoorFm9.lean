/- A map: the chapter's examples. -/
import Derived.Test.YtdaeibbjoefofaaDoorFm8
namespace Go.Proofs.YtdaeibbjoefofaaDoor
open Go.RowKit
set_option linter.unusedVariables false
set_option linter.unusedSimpArgs false

theorem keep_cell {w w1 : World} {a : Addr} {v : Value} (hB : Below w.heap.size w w1) (h : w.cell? a = some v) : w1.cell? a = some v := (hB.cell (World.block_lt_of_cell? _ _ h)).trans h
theorem low_eq {T : Nat → Bool} {i j : Nat} (h : Low T i) (k : Low T j) : i = j := by
  rcases Nat.lt_trichotomy i j with e | e | e
  · have := k.2 i e; rw [h.1] at this; cases this
  · exact e
  · have := h.2 j e; rw [k.1] at this; cases this
theorem take_at (b n i : Nat) (T : Nat → Bool) (w : World) (hM : MapAt w b T n) (hF : FMOk T n) (hT : TabD w) (hl : Low T i) (hi : i < n) : Calls Tryd.prog 11 #[.pointer (some ⟨b, 0, none⟩)] w fun e w' =>
    e = .returned (.tuple #[.int .i64 i, .int .i64 0]) ∧ MapAt w' b (turnT T n i true) n ∧ w.grownBy w' (some b) := by
  refine (take_any b n T w hM hF hT).mono ?_
  rintro e w' (⟨j, h1, h2, rfl, h3, h4⟩ | ⟨h1, _⟩)
  · obtain rfl := low_eq h1 hl
    exact ⟨rfl, h3, h4⟩
  · have := h1 i hi
    rw [hl.1] at this
    cases this
theorem take_full (b n : Nat) (T : Nat → Bool) (w : World) (hM : MapAt w b T n) (hF : FMOk T n) (hT : TabD w) (hl : Full T n) : Calls Tryd.prog 11 #[.pointer (some ⟨b, 0, none⟩)] w fun e w' =>
    e = .returned (.tuple #[.int .i64 (-1), .int .i64 11]) ∧ w = w' := by
  refine (take_any b n T w hM hF hT).mono ?_
  rintro e w' (⟨j, h1, h2, rfl, h3, h4⟩ | ⟨_, h1, h2⟩)
  · have := hl j h2
    rw [h1.1] at this
    cases this
  · exact ⟨h1, h2⟩
theorem TabD.grown {w w' : World} (h : TabD w) {b : Nat} (hg : w.grownBy w' (some b)) (hb : 0 ≠ b) : TabD w' := h.block (hg.block _ h.lt (by simpa using hb))
def TW0 : Nat → Bool := fun _ => false
def TW1 : Nat → Bool := turnT TW0 10 0 true
def TW2 : Nat → Bool := turnT TW1 10 2 true
def TW3 : Nat → Bool := turnT TW2 10 1 true
def TW4 : Nat → Bool := turnT TW3 10 3 true
def TW5 : Nat → Bool := turnT TW4 10 0 false
theorem tw_0 : FMOk TW0 10 := ⟨by omega, by omega, fun _ _ => rfl⟩
theorem tw_1 : FMOk TW1 10 := tw_0.turn _ _
theorem tw_2 : FMOk TW2 10 := tw_1.turn _ _
theorem tw_3 : FMOk TW3 10 := tw_2.turn _ _
theorem tw_4 : FMOk TW4 10 := tw_3.turn _ _
theorem tw_5 : FMOk TW5 10 := tw_4.turn _ _
theorem tw_low1 : Low TW2 1 := by
  refine ⟨by decide, fun j hj => ?_⟩
  obtain rfl : j = 0 := by omega
  decide
theorem tw_low3 : Low TW3 3 := by
  refine ⟨by decide, fun j hj => ?_⟩
  rcases (show j = 0 ∨ j = 1 ∨ j = 2 by omega) with rfl | rfl | rfl <;> decide
theorem tw_runs : runs TW5 10 = [(0, 1), (4, 6)] := by decide
theorem tw_left : leftN TW5 10 = 7 := by unfold leftN; rw [cn_eq]; decide
theorem tw_put : putS TW5 10 = ⟨#[14, 0]⟩ := by
  unfold putS putL
  simp only [show List.range ((10 + 7) / 8) = [0, 1] from rfl, List.map_cons, List.map_nil, bT_eq]
  decide
theorem tw_give : turnT TW5 10 0 false = TW5 := turn_same (k := 0) (by decide) (by decide)

theorem tw_neq {g : Nat} {w : World} (h : TabD w) (hg : w.heap.size ≤ g) : 0 ≠ g := by
  have := h.lt
  omega
set_option maxRecDepth 100000 in
set_option maxHeartbeats 1000000 in
theorem works_any (w : World) (hT : TabD w) : Calls Tryd.prog 8 #[] w fun e w' => e = .returned (.bool true) ∧ Below w.heap.size w w' := by
  have hb0 := tw_neq hT (Nat.le_refl _)
  have HT := Lib.hid hT
  clear hT
  go_enter Tryd.func8, Tryd.ntmps8
  go_wp2_with fail
  refine (new_yes 10 w (by omega) (by omega)).mono ?_
  rintro e w1 ⟨rfl, hw1⟩
  have hM : MapAt w1 w.heap.size TW0 10 := MapAt.new (by rw [hw1]; exact heap_alloc_new w _)
  have HB : Below w.heap.size w w1 := by rw [hw1]; exact (Below.refl _ _).alloc (Nat.le_refl _) _
  have hsz : w.heap.size < w1.heap.size := hM.lt
  have HW := Lib.hid hw1
  clear hw1
  replace HT := Lib.hid (HT.out.below HB)
  go_wp2_with fail
  have q := use_any w.heap.size 10 TW0 0 w1 hM tw_0
  rw [show turnC TW0 10 0 true 12 = 0 by decide] at q
  refine q.mono ?_
  clear q
  rintro e w2 ⟨rfl, hM', hg⟩
  replace hM : MapAt w2 w.heap.size TW1 10 := hM'
  replace HB := below_grown HB hg (Nat.le_refl _) hsz
  replace HT := Lib.hid (HT.out.grown hg hb0)
  replace hsz := hM.lt
  clear hg hM'
  go_wp2_with fail
  have q := use_any w.heap.size 10 TW1 2 w2 hM tw_1
  rw [show turnC TW1 10 2 true 12 = 0 by decide] at q
  refine q.mono ?_
  clear q
  rintro e w3 ⟨rfl, hM', hg⟩
  replace hM : MapAt w3 w.heap.size TW2 10 := hM'
  replace HB := below_grown HB hg (Nat.le_refl _) hsz
  replace HT := Lib.hid (HT.out.grown hg hb0)
  replace hsz := hM.lt
  clear hg hM'
  go_wp2_with fail
  have q := take_at w.heap.size 10 1 TW2 w3 hM tw_2 HT.out tw_low1 (by omega)
  refine q.mono ?_
  clear q
  rintro e w4 ⟨rfl, hM', hg⟩
  replace hM : MapAt w4 w.heap.size TW3 10 := hM'
  replace HB := below_grown HB hg (Nat.le_refl _) hsz
  replace HT := Lib.hid (HT.out.grown hg hb0)
  replace hsz := hM.lt
  clear hg hM'
  go_wp2_with fail
  have q := take_at w.heap.size 10 3 TW3 w4 hM tw_3 HT.out tw_low3 (by omega)
  refine q.mono ?_
  clear q
  rintro e w5 ⟨rfl, hM', hg⟩
  replace hM : MapAt w5 w.heap.size TW4 10 := hM'
  replace HB := below_grown HB hg (Nat.le_refl _) hsz
  replace HT := Lib.hid (HT.out.grown hg hb0)
  replace hsz := hM.lt
  clear hg hM'
  go_wp2_with fail
  have q := give_any w.heap.size 10 TW4 0 w5 hM tw_4
  rw [show turnC TW4 10 0 false 13 = 0 by decide] at q
  refine q.mono ?_
  clear q
  rintro e w6 ⟨rfl, hM', hg⟩
  replace hM : MapAt w6 w.heap.size TW5 10 := hM'
  replace HB := below_grown HB hg (Nat.le_refl _) hsz
  replace hsz := hM.lt
  clear hg hM' HT
  go_wp2_with fail
  have q := give_any w.heap.size 10 TW5 0 w6 hM tw_5
  rw [show turnC TW5 10 0 false 13 = 13 by decide, tw_give] at q
  refine q.mono ?_
  clear q
  rintro e w7 ⟨rfl, hM', hg⟩
  replace hM := hM'
  replace HB := below_grown HB hg (Nat.le_refl _) hsz
  replace hsz := hM.lt
  clear hg hM'
  go_wp2_with fail
  refine (runs_any w.heap.size 10 TW5 w7 hM tw_5).mono ?_
  rintro e w8 ⟨v, rfl, ho, hB⟩
  rw [tw_runs] at ho
  replace HB := HB.trans (hB.mono (Nat.le_of_lt hsz))
  replace hM := hM.below hB
  clear hB
  obtain ⟨g, cap, rfl⟩ := ownsRow_succ ho
  have k0 := ho.cellAt 0 (by simp)
  have k1 := ho.cellAt 1 (by simp)
  have k2 := ho.cellAt 2 (by simp)
  have k3 := ho.cellAt 3 (by simp)
  simp [runC] at k0 k1 k2 k3
  clear ho
  go_wp2_with fail
  have q := put_any w.heap.size 10 TW5 w8 hM tw_5
  rw [tw_put] at q
  refine q.mono ?_
  clear q
  rintro e w9 ⟨rfl, hB⟩
  replace HB := HB.trans (hB.mono HB.size)
  replace hM := hM.below hB
  have d0 := keep_cell hB k0
  have d1 := keep_cell hB k1
  have d2 := keep_cell hB k2
  have d3 := keep_cell hB k3
  have e1 : ∀ W : World, (binOp .eql 53 (.agg #[.int .i64 0, .int .i64 1]) (.agg #[.int .i64 0, .int .i64 1])).run Tryd.prog W = .ok (.bool true) W := fun _ => by kernel_rfl
  have e2 : ∀ W : World, (binOp .eql 53 (.agg #[.int .i64 4, .int .i64 6]) (.agg #[.int .i64 4, .int .i64 6])).run Tryd.prog W = .ok (.bool true) W := fun _ => by kernel_rfl
  clear k0 k1 k2 k3 hB
  go_wp2_with fail
  have q := left_any w.heap.size 10 TW5 w9 hM tw_5
  rw [tw_left] at q
  refine q.mono ?_
  clear q
  rintro e w10 ⟨rfl, rfl⟩
  go_wp2_with fail
  go_ret
  exact ⟨rfl, HB⟩
end Go.Proofs.YtdaeibbjoefofaaDoor
