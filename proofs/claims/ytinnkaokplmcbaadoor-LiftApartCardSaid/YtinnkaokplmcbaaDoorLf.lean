/- Records: lifted, and let down: the package's, and the reference's. -/
import Derived.Test.YtinnkaokplmcbaaDoorLe
namespace Go.Proofs.YtinnkaokplmcbaaDoor
open Go.RowKit
set_option linter.unusedVariables false

theorem upR_no {r : Rec} {m : List (Int × Int)} (h : mayR r = false) : upR r m = zeroR ∧ upE r = 2 := by simp [upR, upE, h]
theorem upR_is {r : Rec} {m : List (Int × Int)} (h : mayR r = true) : upR r m = { r with was := r.seat, seat := toV (toM m r.seat) } ∧ upE r = 0 := by simp [upR, upE, h]
theorem downR_no {r : Rec} (h : may2 r = false) : downR r = zeroR ∧ downE r = 2 := by simp [downR, downE, h]
theorem downR_on {r : Rec} (h : may2 r = true) (hw : r.was = -1) : downR r = zeroR ∧ downE r = 18 := by simp [downR, downE, h, hw]
theorem downR_is {r : Rec} (h : may2 r = true) (hw : r.was ≠ -1) : downR r = { r with seat := r.was, was := -1 } ∧ downE r = 0 := by simp [downR, downE, h, hw]

set_option maxRecDepth 100000 in
set_option maxHeartbeats 4000000 in
theorem Up_any (r : Rec) (m : List (Int × Int)) (v : Value) (w : World) (hr : r.Ok) (hG : GP w) (hv : RdM w v m) (hl : m.length < 1000000) : Calls Tryd.prog 9 #[r.val, v] w fun e w' => e = .returned (.tuple #[(upR r m).val, .int .i64 (upE r)]) ∧ Below w.heap.size w w' := by
  have HB : Below w.heap.size w ((w.alloc (.cells #[.bool r.hold, .int .u32 r.id, .string r.person, .int .i64 r.cls, .int .i64 r.seat, .int .i64 r.was, .int .u64 r.til] 25)).alloc (.cells #[.bool false, .int .u32 0, .string ⟨#[]⟩, .int .i64 0, .int .i64 0, .int .i64 0, .int .u64 0] 25)) := ((Below.refl _ _).alloc (Nat.le_refl _) _).alloc (by simp) _
  have hc := wayUp r m v _ hr (hG.below HB) (hv.below HB) hl
  cases h : mayR r with
  | false =>
    have HE : Hid (upR r m = zeroR ∧ upE r = 2) := upR_no h
    rw [h, if_neg (by simp)] at hc
    clear h
    go_enter Tryd.func9, Tryd.ntmps9
    go_wp2_with (go_at_call 25; refine hc.mono ?_; rintro e w1 ⟨rfl, hB⟩; obtain ⟨⟨q0, q1, q2, q3, q4, q5, q6⟩, g0, g1, g2, g3, g4, g5, g6⟩ := row7 (row_at1 hB); replace HB := bstep HB hB; clear hB; try dsimp only [Rec.val, zeroR])
    refine bodyPost_ret (by simp [results, Tryd.results9, go_sem, q0, q1, q2, q3, q4, q5, q6]; try rfl) rfl ?_
    exact ⟨by rw [HE.out.1, HE.out.2] <;> rfl, by go_grown⟩
  | true =>
    have HE : Hid (upR r m = { r with was := r.seat, seat := toV (toM m r.seat) } ∧ upE r = 0) := upR_is h
    rw [h, if_pos rfl] at hc
    clear h
    go_enter Tryd.func9, Tryd.ntmps9
    go_wp2_with (go_at_call 25; refine hc.mono ?_; rintro e w1 ⟨rfl, hB⟩; obtain ⟨⟨q0, q1, q2, q3, q4, q5, q6⟩, g0, g1, g2, g3, g4, g5, g6⟩ := row7 (row_at1 hB); replace HB := bstep HB hB; clear hB; try dsimp only [Rec.val, zeroR])
    refine bodyPost_ret (by simp [results, Tryd.results9, go_sem, q0, q1, q2, q3, q4, q5, q6]; try rfl) rfl ?_
    exact ⟨by rw [HE.out.1, HE.out.2] <;> rfl, by go_grown⟩

set_option maxRecDepth 100000 in
set_option maxHeartbeats 4000000 in
theorem rUp_any (r : Rec) (m : List (Int × Int)) (v : Value) (w : World) (hr : r.Ok) (hv : RdM w v m) (hl : m.length < 1000000) : Calls Tryd.prog 11 #[r.val, v] w fun e w' => e = .returned (.tuple #[(upR r m).val, .int .i64 (upE r)]) ∧ Below w.heap.size w w' := by
  have HB : Below w.heap.size w ((w.alloc (.cells #[.bool r.hold, .int .u32 r.id, .string r.person, .int .i64 r.cls, .int .i64 r.seat, .int .i64 r.was, .int .u64 r.til] 25)).alloc (.cells #[.bool false, .int .u32 0, .string ⟨#[]⟩, .int .i64 0, .int .i64 0, .int .i64 0, .int .u64 0] 25)) := ((Below.refl _ _).alloc (Nat.le_refl _) _).alloc (by simp) _
  have hm := fun W => rMay_any r W hr
  cases h : mayR r with
  | false =>
    have HE : Hid (upR r m = zeroR ∧ upE r = 2) := upR_no h
    rw [h] at hm
    clear h
    go_enter Tryd.func11, Tryd.ntmps11
    go_wp2_with (go_at_call 26; refine (hm _).mono ?_; rintro e w1 ⟨rfl, hB⟩; obtain ⟨⟨k0, k1, k2, k3, k4, k5, k6⟩, f0, f1, f2, f3, f4, f5, f6⟩ := row7 (row_at2 hB); obtain ⟨⟨q0, q1, q2, q3, q4, q5, q6⟩, g0, g1, g2, g3, g4, g5, g6⟩ := row7 (row_at1 hB); replace HB := bstep HB hB; clear hB)
    refine bodyPost_ret (by simp [results, Tryd.results11, go_sem, q0, q1, q2, q3, q4, q5, q6]; try rfl) rfl ?_
    exact ⟨by rw [HE.out.1, HE.out.2] <;> rfl, by go_grown⟩
  | true =>
   rw [h] at hm
   cases ht : toM m r.seat with
   | none =>
    have HE : Hid (upR r m = { r with was := r.seat, seat := -1 } ∧ upE r = 0) := by have := upR_is (m := m) h; rw [ht] at this; exact this
    clear h
    go_enter Tryd.func11, Tryd.ntmps11
    go_wp2_with (first | (go_at_call 26; refine (hm _).mono ?_; rintro e w1 ⟨rfl, hB⟩; obtain ⟨⟨k0, k1, k2, k3, k4, k5, k6⟩, f0, f1, f2, f3, f4, f5, f6⟩ := row7 (row_at2 hB); obtain ⟨⟨q0, q1, q2, q3, q4, q5, q6⟩, g0, g1, g2, g3, g4, g5, g6⟩ := row7 (row_at1 hB); have hv1 := hv.below (bstep HB hB); replace HB := bstep HB hB; clear hB) | (go_at_call 27; refine (rto_any m v _ _ hv1 hl).mono ?_; rw [ht]; rintro e w2 ⟨rfl, rfl⟩; dsimp only [toV, Option.isSome]))
    refine bodyPost_ret (by simp [results, Tryd.results11, go_sem, q0, q1, q2, q3, q4, q5, q6]; try rfl) rfl ?_
    exact ⟨by rw [HE.out.1, HE.out.2] <;> rfl, by go_grown⟩
   | some x =>
    have HE : Hid (upR r m = { r with was := r.seat, seat := x.2 } ∧ upE r = 0) := by have := upR_is (m := m) h; rw [ht] at this; exact this
    clear h
    go_enter Tryd.func11, Tryd.ntmps11
    go_wp2_with (first | (go_at_call 26; refine (hm _).mono ?_; rintro e w1 ⟨rfl, hB⟩; obtain ⟨⟨k0, k1, k2, k3, k4, k5, k6⟩, f0, f1, f2, f3, f4, f5, f6⟩ := row7 (row_at2 hB); obtain ⟨⟨q0, q1, q2, q3, q4, q5, q6⟩, g0, g1, g2, g3, g4, g5, g6⟩ := row7 (row_at1 hB); have hv1 := hv.below (bstep HB hB); replace HB := bstep HB hB; clear hB) | (go_at_call 27; refine (rto_any m v _ _ hv1 hl).mono ?_; rw [ht]; rintro e w2 ⟨rfl, rfl⟩; dsimp only [toV, Option.isSome]; have e4 : (((w2.setCell ⟨w.heap.size, 5, none⟩ (.int .i64 r.seat)).setCell ⟨w.heap.size, 4, none⟩ (.int .i64 (-1))).setCell ⟨w.heap.size, 4, none⟩ (.int .i64 x.2)).cell? ⟨w.heap.size, 4, none⟩ = some (.int .i64 x.2) := World.cell?_setCell_same' _ _ _ (by rw [World.cell?_setCell_same' _ _ _ (by rw [World.cell?_setCell_other (h := by simp), k4]; rfl)]; rfl)))
    refine bodyPost_ret (by simp [results, Tryd.results11, go_sem, q0, q1, q2, q3, q4, q5, q6]; try rfl) rfl ?_
    exact ⟨by rw [HE.out.1, HE.out.2] <;> rfl, by go_grown⟩

set_option maxRecDepth 100000 in
set_option maxHeartbeats 4000000 in
theorem Down_any (r : Rec) (w : World) (hr : r.Ok) (hG : GP w) : Calls Tryd.prog 12 #[r.val] w fun e w' => e = .returned (.tuple #[(downR r).val, .int .i64 (downE r)]) ∧ Below w.heap.size w w' := by
  have HB : Below w.heap.size w ((w.alloc (.cells #[.bool r.hold, .int .u32 r.id, .string r.person, .int .i64 r.cls, .int .i64 r.seat, .int .i64 r.was, .int .u64 r.til] 25)).alloc (.cells #[.bool false, .int .u32 0, .string ⟨#[]⟩, .int .i64 0, .int .i64 0, .int .i64 0, .int .u64 0] 25)) := ((Below.refl _ _).alloc (Nat.le_refl _) _).alloc (by simp) _
  have hm := fun W hG => May_any r W hr hG
  have hc := fun W hG => wayDown r W hr hG
  cases h : may2 r with
  | false =>
    have HE : Hid (downR r = zeroR ∧ downE r = 2) := downR_no h
    simp only [h, Bool.false_eq_true, if_false] at hm hc
    clear h
    go_enter Tryd.func12, Tryd.ntmps12
    go_wp2_with (first | (go_at_call 14; refine (hm _ (hG.below HB)).mono ?_; rintro e w1 ⟨rfl, hB⟩; obtain ⟨⟨k0, k1, k2, k3, k4, k5, k6⟩, f0, f1, f2, f3, f4, f5, f6⟩ := row7 (row_at2 hB); have hq := row_at1 hB; replace HB := bstep HB hB; have hG1 := hG.below HB; clear hB) | (go_at_call 25; refine (hc _ hG1).mono ?_; rintro e w2 ⟨rfl, hB⟩; obtain ⟨⟨q0, q1, q2, q3, q4, q5, q6⟩, g0, g1, g2, g3, g4, g5, g6⟩ := row7 (keep_row hB hq); replace HB := bstep HB hB; clear hB; try dsimp only [Rec.val, zeroR]))
    refine bodyPost_ret (by simp [results, Tryd.results12, go_sem, q0, q1, q2, q3, q4, q5, q6]; try rfl) rfl ?_
    exact ⟨by rw [HE.out.1, HE.out.2] <;> rfl, by go_grown⟩
  | true =>
   by_cases hw : r.was = -1
   · have HE : Hid (downR r = zeroR ∧ downE r = 18) := downR_on h hw
     have hw2 : (r.was == -1) = true := by simpa using hw
     simp only [h, if_true] at hm hc
     clear h hw
     go_enter Tryd.func12, Tryd.ntmps12
     go_wp2_with (go_at_call 14; refine (hm _ (hG.below HB)).mono ?_; rintro e w1 ⟨rfl, hB⟩; obtain ⟨⟨k0, k1, k2, k3, k4, k5, k6⟩, f0, f1, f2, f3, f4, f5, f6⟩ := row7 (row_at2 hB); obtain ⟨⟨q0, q1, q2, q3, q4, q5, q6⟩, g0, g1, g2, g3, g4, g5, g6⟩ := row7 (row_at1 hB); replace HB := bstep HB hB; have hG1 := hG.below HB; clear hB)
     refine bodyPost_ret (by simp [results, Tryd.results12, go_sem, q0, q1, q2, q3, q4, q5, q6]; try rfl) rfl ?_
     exact ⟨by rw [HE.out.1, HE.out.2] <;> rfl, by go_grown⟩
   · have HE : Hid (downR r = { r with seat := r.was, was := -1 } ∧ downE r = 0) := downR_is h hw
     have hw2 : (r.was == -1) = false := by simpa using hw
     simp only [h, if_true] at hm hc
     clear h hw
     go_enter Tryd.func12, Tryd.ntmps12
     go_wp2_with (first | (go_at_call 14; refine (hm _ (hG.below HB)).mono ?_; rintro e w1 ⟨rfl, hB⟩; obtain ⟨⟨k0, k1, k2, k3, k4, k5, k6⟩, f0, f1, f2, f3, f4, f5, f6⟩ := row7 (row_at2 hB); have hq := row_at1 hB; replace HB := bstep HB hB; have hG1 := hG.below HB; clear hB) | (go_at_call 25; refine (hc _ hG1).mono ?_; rintro e w2 ⟨rfl, hB⟩; obtain ⟨⟨q0, q1, q2, q3, q4, q5, q6⟩, g0, g1, g2, g3, g4, g5, g6⟩ := row7 (keep_row hB hq); replace HB := bstep HB hB; clear hB; try dsimp only [Rec.val, zeroR]))
     refine bodyPost_ret (by simp [results, Tryd.results12, go_sem, q0, q1, q2, q3, q4, q5, q6]; try rfl) rfl ?_
     exact ⟨by rw [HE.out.1, HE.out.2] <;> rfl, by go_grown⟩

set_option maxRecDepth 100000 in
set_option maxHeartbeats 4000000 in
theorem rDown_any (r : Rec) (w : World) (hr : r.Ok) : Calls Tryd.prog 13 #[r.val] w fun e w' => e = .returned (.tuple #[(downR r).val, .int .i64 (downE r)]) ∧ Below w.heap.size w w' := by
  have HB : Below w.heap.size w ((w.alloc (.cells #[.bool r.hold, .int .u32 r.id, .string r.person, .int .i64 r.cls, .int .i64 r.seat, .int .i64 r.was, .int .u64 r.til] 25)).alloc (.cells #[.bool false, .int .u32 0, .string ⟨#[]⟩, .int .i64 0, .int .i64 0, .int .i64 0, .int .u64 0] 25)) := ((Below.refl _ _).alloc (Nat.le_refl _) _).alloc (by simp) _
  have hm := fun W => rMay2_any r W hr
  cases h : may2 r with
  | false =>
    have HE : Hid (downR r = zeroR ∧ downE r = 2) := downR_no h
    simp only [h] at hm
    clear h
    go_enter Tryd.func13, Tryd.ntmps13
    go_wp2_with (go_at_call 15; refine (hm _).mono ?_; rintro e w1 ⟨rfl, hB⟩; obtain ⟨⟨k0, k1, k2, k3, k4, k5, k6⟩, f0, f1, f2, f3, f4, f5, f6⟩ := row7 (row_at2 hB); obtain ⟨⟨q0, q1, q2, q3, q4, q5, q6⟩, g0, g1, g2, g3, g4, g5, g6⟩ := row7 (row_at1 hB); replace HB := bstep HB hB; clear hB)
    refine bodyPost_ret (by simp [results, Tryd.results13, go_sem, q0, q1, q2, q3, q4, q5, q6]; try rfl) rfl ?_
    exact ⟨by rw [HE.out.1, HE.out.2] <;> rfl, by go_grown⟩
  | true =>
   by_cases hw : r.was = -1
   · have HE : Hid (downR r = zeroR ∧ downE r = 18) := downR_on h hw
     have hw2 : (r.was == -1) = true := by simpa using hw
     simp only [h] at hm
     clear h hw
     go_enter Tryd.func13, Tryd.ntmps13
     go_wp2_with (go_at_call 15; refine (hm _).mono ?_; rintro e w1 ⟨rfl, hB⟩; obtain ⟨⟨k0, k1, k2, k3, k4, k5, k6⟩, f0, f1, f2, f3, f4, f5, f6⟩ := row7 (row_at2 hB); obtain ⟨⟨q0, q1, q2, q3, q4, q5, q6⟩, g0, g1, g2, g3, g4, g5, g6⟩ := row7 (row_at1 hB); replace HB := bstep HB hB; clear hB)
     refine bodyPost_ret (by simp [results, Tryd.results13, go_sem, q0, q1, q2, q3, q4, q5, q6]; try rfl) rfl ?_
     exact ⟨by rw [HE.out.1, HE.out.2] <;> rfl, by go_grown⟩
   · have HE : Hid (downR r = { r with seat := r.was, was := -1 } ∧ downE r = 0) := downR_is h hw
     have hw2 : (r.was == -1) = false := by simpa using hw
     simp only [h] at hm
     clear h hw
     go_enter Tryd.func13, Tryd.ntmps13
     go_wp2_with (go_at_call 15; refine (hm _).mono ?_; rintro e w1 ⟨rfl, hB⟩; obtain ⟨⟨k0, k1, k2, k3, k4, k5, k6⟩, f0, f1, f2, f3, f4, f5, f6⟩ := row7 (row_at2 hB); obtain ⟨⟨q0, q1, q2, q3, q4, q5, q6⟩, g0, g1, g2, g3, g4, g5, g6⟩ := row7 (row_at1 hB); replace HB := bstep HB hB; clear hB)
     refine bodyPost_ret (by simp [results, Tryd.results13, go_sem, q0, q1, q2, q3, q4, q5, q6]; try rfl) rfl ?_
     exact ⟨by rw [HE.out.1, HE.out.2] <;> rfl, by go_grown⟩

end Go.Proofs.YtinnkaokplmcbaaDoor
