/- Records: alike; the chapter's examples. -/
import Derived.Test.YtinnkaokplmcbaaDoorLf
namespace Go.Proofs.YtinnkaokplmcbaaDoor
open Go.RowKit
set_option linter.unusedVariables false

theorem rec_agg (r : Rec) (W : World) : (Op.equalIn 10000 25 r.val r.val).run Tryd.prog W = .ok true W := by
  rw [show (10000 : Nat) = 9999 + 1 from rfl, run_equalIn_struct (P := Tryd.prog) W 9999 25 _ _ (by kernel_rfl) (by kernel_rfl)]
  simp [Op.eqFields, Program.fieldsOf, Tryd.underlying25, go_sem]
theorem rec_eql (r : Rec) (W : World) : (binOp .eql 25 r.val r.val).run Tryd.prog W = .ok (.bool true) W := by
  rw [run_eql_struct, rec_agg]; rfl
theorem rec_neq (r : Rec) (W : World) : (binOp .neq 25 r.val r.val).run Tryd.prog W = .ok (.bool false) W := by
  rw [run_neq_struct, rec_agg]; rfl

/-- A slice of one move that the call has just laid. -/
theorem RdM.one (w : World) (x y : Int) : RdM (w.alloc (.cells #[.int .i64 x, .int .i64 y] 56)) (.slice (some ⟨w.heap.size, 0, none⟩) 1 1) [(x, y)] := by
  refine ⟨some (w.heap.size, 0), 1, rfl, by simp, (fun h => by cases h), fun p hp j u hu => ?_⟩
  obtain rfl : (w.heap.size, 0) = p := by simpa using hp
  match j, hu with
  | 0, hu =>
    simp at hu
    subst hu
    exact ⟨by rw [cell_of_row _ _ _ _ _ _ (heap_alloc_new w _)]; rfl, by rw [cell_of_row _ _ _ _ _ _ (heap_alloc_new w _)]; rfl⟩
  | j + 1, hu => simp at hu

theorem alloc_cell {w : World} {a : Addr} {v : Value} (h : w.cell? a = some v) (o : Obj) : (w.alloc o).cell? a = some v := keep_cell ((Below.refl _ _).alloc (Nat.le_refl _) o) h

set_option maxRecDepth 100000 in
set_option maxHeartbeats 8000000 in
theorem works_any (w : World) (hG : GP w) : Calls Tryd.prog 16 #[] w fun e w' => e = .returned (.bool true) ∧ Below w.heap.size w w' := by
  have e1 : upR ⟨false, 1, ⟨#[74]⟩, 0, 5, -1, 0⟩ [(5, 9)] = ⟨false, 1, ⟨#[74]⟩, 0, 9, 5, 0⟩ := by unfold upR; rw [if_pos (by decide)]; rfl
  have e2 : upR ⟨false, 1, ⟨#[74]⟩, 0, 5, -1, 0⟩ [(4, 9)] = ⟨false, 1, ⟨#[74]⟩, 0, -1, 5, 0⟩ := by unfold upR; rw [if_pos (by decide)]; rfl
  have e3 : upE ⟨false, 1, ⟨#[74]⟩, 0, 5, -1, 0⟩ = 0 := by unfold upE; rw [if_pos (by decide)]
  have e4 : downR ⟨false, 1, ⟨#[74]⟩, 0, -1, 5, 0⟩ = ⟨false, 1, ⟨#[74]⟩, 0, 5, -1, 0⟩ := by unfold downR; rw [if_pos (by decide), if_neg (by decide)]
  have e5 : downE ⟨false, 1, ⟨#[74]⟩, 0, -1, 5, 0⟩ = 0 := by unfold downE; rw [if_pos (by decide), if_neg (by decide)]
  have e6 : downE ⟨false, 1, ⟨#[74]⟩, 0, 9, -1, 0⟩ = 18 := by unfold downE; rw [if_pos (by decide), if_pos (by decide)]
  have e7 : downR ⟨false, 1, ⟨#[74]⟩, 0, 9, -1, 0⟩ = zeroR := by unfold downR; rw [if_pos (by decide), if_pos (by decide)]
  have ok1 : Rec.Ok ⟨false, 1, ⟨#[74]⟩, 0, 5, -1, 0⟩ := ⟨by decide, by decide, by decide, by decide, by decide⟩
  have ok2 : Rec.Ok ⟨false, 1, ⟨#[74]⟩, 0, -1, 5, 0⟩ := ⟨by decide, by decide, by decide, by decide, by decide⟩
  have ok3 : Rec.Ok ⟨false, 1, ⟨#[74]⟩, 0, 9, -1, 0⟩ := ⟨by decide, by decide, by decide, by decide, by decide⟩
  have q1 := fun W => rec_eql ⟨false, 1, ⟨#[74]⟩, 0, 9, 5, 0⟩ W
  have q2 := fun W => rec_eql ⟨false, 1, ⟨#[74]⟩, 0, -1, 5, 0⟩ W
  have q3 := fun W => rec_eql ⟨false, 1, ⟨#[74]⟩, 0, 5, -1, 0⟩ W
  dsimp only [Rec.val] at q1 q2 q3
  have HB := Below.refl w.heap.size w
  go_enter Tryd.func16, Tryd.ntmps16
  go_wp2_with fail
  have HA : Below w.heap.size w ((w.alloc (.cells #[.bool false, .int .u32 1, .string ⟨#[74]⟩, .int .i64 0, .int .i64 5, .int .i64 (-1), .int .u64 0] 25)).alloc (.cells #[.int .i64 5, .int .i64 9] 56)) := ((Below.refl _ _).alloc (Nat.le_refl _) _).alloc (by simp) _
  have hm := RdM.one (w.alloc (.cells #[.bool false, .int .u32 1, .string ⟨#[74]⟩, .int .i64 0, .int .i64 5, .int .i64 (-1), .int .u64 0] 25)) 5 9
  simp only [World.size_alloc] at hm
  refine (Up_any ⟨false, 1, ⟨#[74]⟩, 0, 5, -1, 0⟩ [(5, 9)] _ _ ok1 (hG.below HA) hm (by decide)).mono ?_
  rintro e w1 ⟨rfl, hB⟩
  rw [e1, e3]
  dsimp only [Rec.val]
  have r1 := row_at2 hB
  have HB := bstep HA hB
  clear hB HA hm
  obtain ⟨⟨k0, k1, k2, k3, k4, k5, k6⟩, _⟩ := row7 r1
  have ka0 := fun o => alloc_cell k0 o
  have ka1 := fun o => alloc_cell k1 o
  have ka2 := fun o => alloc_cell k2 o
  have ka3 := fun o => alloc_cell k3 o
  have ka4 := fun o => alloc_cell k4 o
  have ka5 := fun o => alloc_cell k5 o
  have ka6 := fun o => alloc_cell k6 o
  go_wp2_with fail
  have HA : Below w1.heap.size w1 ((w1.alloc (.cells #[.bool false, .int .u32 1, .string ⟨#[74]⟩, .int .i64 0, .int .i64 9, .int .i64 5, .int .u64 0] 25)).alloc (.cells #[.int .i64 4, .int .i64 9] 56)) := ((Below.refl _ _).alloc (Nat.le_refl _) _).alloc (by simp) _
  have hm := RdM.one (w1.alloc (.cells #[.bool false, .int .u32 1, .string ⟨#[74]⟩, .int .i64 0, .int .i64 9, .int .i64 5, .int .u64 0] 25)) 4 9
  simp only [World.size_alloc] at hm
  refine (Up_any ⟨false, 1, ⟨#[74]⟩, 0, 5, -1, 0⟩ [(4, 9)] _ _ ok1 (hG.below (bstep HB HA)) hm (by decide)).mono ?_
  rintro e w2 ⟨rfl, hB⟩
  rw [e2, e3]
  dsimp only [Rec.val]
  replace r1 := keep_row (bstep HA hB) r1
  have r2 := row_at2 hB
  replace HB := bstep HB (bstep HA hB)
  clear hB HA hm k0 k1 k2 k3 k4 k5 k6 ka0 ka1 ka2 ka3 ka4 ka5 ka6
  go_wp2_with fail
  have HA : Below w2.heap.size w2 (w2.alloc (.cells #[.bool false, .int .u32 1, .string ⟨#[74]⟩, .int .i64 0, .int .i64 (-1), .int .i64 5, .int .u64 0] 25)) := (Below.refl _ _).alloc (Nat.le_refl _) _
  refine (Down_any ⟨false, 1, ⟨#[74]⟩, 0, -1, 5, 0⟩ _ ok2 (hG.below (bstep HB HA))).mono ?_
  rintro e w3 ⟨rfl, hB⟩
  rw [e4, e5]
  dsimp only [Rec.val]
  replace r1 := keep_row (bstep HA hB) r1
  replace r2 := keep_row (bstep HA hB) r2
  have r3 := row_at hB
  replace HB := bstep HB (bstep HA hB)
  clear hB HA
  go_wp2_with fail
  have HA : Below w3.heap.size w3 (w3.alloc (.cells #[.bool false, .int .u32 1, .string ⟨#[74]⟩, .int .i64 0, .int .i64 5, .int .i64 (-1), .int .u64 0] 25)) := (Below.refl _ _).alloc (Nat.le_refl _) _
  refine (Down_any ⟨false, 1, ⟨#[74]⟩, 0, 9, -1, 0⟩ _ ok3 (hG.below (bstep HB HA))).mono ?_
  rintro e w4 ⟨rfl, hB⟩
  rw [e6, e7]
  dsimp only [Rec.val, zeroR]
  replace r1 := keep_row (bstep HA hB) r1
  replace r2 := keep_row (bstep HA hB) r2
  replace r3 := keep_row (bstep HA hB) r3
  have r4 := row_at hB
  replace HB := bstep HB (bstep HA hB)
  clear hB HA
  obtain ⟨⟨k0, k1, k2, k3, k4, k5, k6⟩, _⟩ := row7 r1
  have ka0 := fun o => alloc_cell k0 o
  have ka1 := fun o => alloc_cell k1 o
  have ka2 := fun o => alloc_cell k2 o
  have ka3 := fun o => alloc_cell k3 o
  have ka4 := fun o => alloc_cell k4 o
  have ka5 := fun o => alloc_cell k5 o
  have ka6 := fun o => alloc_cell k6 o
  obtain ⟨⟨l0, l1, l2, l3, l4, l5, l6⟩, _⟩ := row7 r2
  have la0 := fun o => alloc_cell l0 o
  have la1 := fun o => alloc_cell l1 o
  have la2 := fun o => alloc_cell l2 o
  have la3 := fun o => alloc_cell l3 o
  have la4 := fun o => alloc_cell l4 o
  have la5 := fun o => alloc_cell l5 o
  have la6 := fun o => alloc_cell l6 o
  obtain ⟨⟨m0, m1, m2, m3, m4, m5, m6⟩, _⟩ := row7 r3
  have ma0 := fun o => alloc_cell m0 o
  have ma1 := fun o => alloc_cell m1 o
  have ma2 := fun o => alloc_cell m2 o
  have ma3 := fun o => alloc_cell m3 o
  have ma4 := fun o => alloc_cell m4 o
  have ma5 := fun o => alloc_cell m5 o
  have ma6 := fun o => alloc_cell m6 o
  obtain ⟨⟨n0, n1, n2, n3, n4, n5, n6⟩, _⟩ := row7 r4
  have na0 := fun o => alloc_cell n0 o
  have na1 := fun o => alloc_cell n1 o
  have na2 := fun o => alloc_cell n2 o
  have na3 := fun o => alloc_cell n3 o
  have na4 := fun o => alloc_cell n4 o
  have na5 := fun o => alloc_cell n5 o
  have na6 := fun o => alloc_cell n6 o
  clear r1 r2 r3 r4 e1 e2 e3 e4 e5 e6 e7 ok1 ok2 ok3
  go_wp2_with fail
  go_ret
  exact ⟨rfl, HB.alloc HB.size _⟩
end Go.Proofs.YtinnkaokplmcbaaDoor
