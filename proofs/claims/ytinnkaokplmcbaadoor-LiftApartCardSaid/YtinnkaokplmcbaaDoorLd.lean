/- Records that go from one version to the other one. -/
import Derived.Test.YtinnkaokplmcbaaDoorLb
import Derived.Test.YtinnkaokplmcbaaDoorLc
namespace Go.Proofs.YtinnkaokplmcbaaDoor
open Go.RowKit
set_option linter.unusedVariables false

/-- A row of seven cells. -/
theorem row7 {w : World} {b : Nat} {v0 v1 v2 v3 v4 v5 v6 : Value} {t : TypeId} (h : w.heap[b]? = some (.cells #[v0, v1, v2, v3, v4, v5, v6] t (0, 0))) :
    (w.cell? ⟨b, 0, none⟩ = some v0 ∧ w.cell? ⟨b, 1, none⟩ = some v1 ∧ w.cell? ⟨b, 2, none⟩ = some v2 ∧ w.cell? ⟨b, 3, none⟩ = some v3 ∧ w.cell? ⟨b, 4, none⟩ = some v4 ∧ w.cell? ⟨b, 5, none⟩ = some v5 ∧ w.cell? ⟨b, 6, none⟩ = some v6) ∧
    (w.frozen? ⟨b, 0, none⟩ = false ∧ w.frozen? ⟨b, 1, none⟩ = false ∧ w.frozen? ⟨b, 2, none⟩ = false ∧ w.frozen? ⟨b, 3, none⟩ = false ∧ w.frozen? ⟨b, 4, none⟩ = false ∧ w.frozen? ⟨b, 5, none⟩ = false ∧ w.frozen? ⟨b, 6, none⟩ = false) := by
  refine ⟨⟨?_, ?_, ?_, ?_, ?_, ?_, ?_⟩, ?_, ?_, ?_, ?_, ?_, ?_, ?_⟩
  all_goals first | (rw [cell_of_row _ _ _ _ _ _ h]; rfl) | (simp [World.frozen?, h])

theorem keep_row {w w' : World} {b : Nat} {r : Obj} (hB : Below w.heap.size w w') (h : w.heap[b]? = some r) : w'.heap[b]? = some r := by
  have hl : b < w.heap.size := (Array.getElem?_eq_some_iff.1 h).1
  rw [hB.block b hl]
  exact h

set_option maxRecDepth 100000 in
set_option maxHeartbeats 2000000 in
theorem down_any (r : Rec) (w : World) : Calls Tryd.prog 28 #[r.val, .slice none 0 0] w fun e w' => e = .returned (Rec.val { r with seat := r.was, was := -1 }) ∧ Below w.heap.size w w' := by
  go_enter Tryd.func28, Tryd.ntmps28
  go_wp2
  go_returns
  exact ⟨rfl, by go_grown⟩

theorem row_at {w w' : World} {r : Obj} (h : Below (w.alloc r).heap.size (w.alloc r) w') : w'.heap[w.heap.size]? = some r := keep_row h (heap_alloc_new w r)
theorem row_at2 {w w' : World} {r q : Obj} (h : Below ((w.alloc r).alloc q).heap.size ((w.alloc r).alloc q) w') : w'.heap[w.heap.size]? = some r :=
  keep_row h ((((Below.refl (w.alloc r).heap.size (w.alloc r)).alloc (Nat.le_refl _) q).block _ (by simp)).trans (heap_alloc_new w r))
theorem row_at1 {w w' : World} {r q : Obj} (h : Below ((w.alloc r).alloc q).heap.size ((w.alloc r).alloc q) w') : w'.heap[w.heap.size + 1]? = some q := by
  have := keep_row h (heap_alloc_new (w.alloc r) q)
  simpa using this

set_option maxRecDepth 100000 in
set_option maxHeartbeats 4000000 in
theorem up_any (r : Rec) (m : List (Int × Int)) (v : Value) (w : World) (hv : RdM w v m) (hl : m.length < 1000000) : Calls Tryd.prog 24 #[r.val, v] w fun e w' => e = .returned (Rec.val { r with was := r.seat, seat := toV (toM m r.seat) }) ∧ Below w.heap.size w w' := by
  obtain ⟨W, hW⟩ : ∃ W, W = (w.alloc (.cells #[.bool r.hold, .int .u32 r.id, .string r.person, .int .i64 r.cls, .int .i64 r.seat, .int .i64 r.was, .int .u64 r.til] 60)).alloc (.cells #[.bool false, .int .u32 0, .string ⟨#[]⟩, .int .i64 0, .int .i64 0, .int .i64 0, .int .u64 0] 60) := ⟨_, rfl⟩
  have HB : Below w.heap.size w W := by rw [hW]; exact ((Below.refl _ _).alloc (Nat.le_refl _) _).alloc (by simp) _
  have hc := fun s => to_any m v s W (hv.below HB) hl
  cases ht : toM m r.seat with
  | none =>
    go_enter Tryd.func24, Tryd.ntmps24
    go_wp2_with (go_at_call 17; rw [← hW]; refine (hc r.seat).mono ?_; rw [ht]; rintro e w' ⟨rfl, hB⟩; replace HB := bstep HB hB; rw [hW] at hB; obtain ⟨⟨k0, k1, k2, k3, k4, k5, k6⟩, f0, f1, f2, f3, f4, f5, f6⟩ := row7 (row_at2 hB); obtain ⟨⟨q0, q1, q2, q3, q4, q5, q6⟩, g0, g1, g2, g3, g4, g5, g6⟩ := row7 (row_at1 hB); clear hB hW; simp only [toV, Option.isSome])
    refine bodyPost_ret (by simp [results, Tryd.results24, go_sem, q0, q1, q2, q3, q4, q5, q6]; try rfl) rfl ?_
    exact ⟨rfl, by go_grown⟩
  | some x =>
    go_enter Tryd.func24, Tryd.ntmps24
    go_wp2_with (go_at_call 17; rw [← hW]; refine (hc r.seat).mono ?_; rw [ht]; rintro e w' ⟨rfl, hB⟩; replace HB := bstep HB hB; rw [hW] at hB; obtain ⟨⟨k0, k1, k2, k3, k4, k5, k6⟩, f0, f1, f2, f3, f4, f5, f6⟩ := row7 (row_at2 hB); obtain ⟨⟨q0, q1, q2, q3, q4, q5, q6⟩, g0, g1, g2, g3, g4, g5, g6⟩ := row7 (row_at1 hB); clear hB hW; simp only [toV, Option.isSome])
    refine bodyPost_ret (by simp [results, Tryd.results24, go_sem, q0, q1, q2, q3, q4, q5, q6]; try rfl) rfl ?_
    exact ⟨rfl, by go_grown⟩

/-- Whether a seat may stand in a record of the second version. -/
def stB (n : Int) : Bool := decide (-1 ≤ n ∧ n ≤ 63)
set_option maxHeartbeats 1000000 in
theorem stands_any (n : Int) (w : World) : Calls Tryd.prog 29 #[.int .i64 n] w fun e w' => e = .returned (.bool (stB n)) ∧ w' = w := by
  by_cases h : -1 ≤ n
  · have HE : Hid (stB n = decide (n < 64)) := by show stB n = _; simp [stB, h]; omega
    go_enter Tryd.func29, Tryd.ntmps29
    go_wp2
    go_ret
    exact ⟨by rw [HE.out]; rfl, rfl⟩
  · have HE : Hid (stB n = false) := by show stB n = _; simp [stB]; omega
    go_enter Tryd.func29, Tryd.ntmps29
    go_wp2
    go_ret
    exact ⟨by rw [HE.out]; rfl, rfl⟩
set_option maxHeartbeats 1000000 in
theorem rseat_any (n : Int) (w : World) : Calls Tryd.prog 30 #[.int .i64 n] w fun e w' => e = .returned (.bool (stB n)) ∧ w' = w := by
  by_cases h : -1 ≤ n
  · have HE : Hid (stB n = decide (n ≤ 63)) := by show stB n = _; simp [stB, h]
    go_enter Tryd.func30, Tryd.ntmps30
    go_wp2
    go_ret
    exact ⟨by rw [HE.out]; rfl, rfl⟩
  · have HE : Hid (stB n = false) := by show stB n = _; simp [stB]; omega
    go_enter Tryd.func30, Tryd.ntmps30
    go_wp2
    go_ret
    exact ⟨by rw [HE.out]; rfl, rfl⟩

/-- Whether a record may be one of the second version. -/
def may2 (r : Rec) : Bool := stB r.seat && stB r.was && mayR { r with seat := 0, was := -1 }
theorem Rec.Ok.at {r : Rec} (h : r.Ok) (s a : Int) : Rec.Ok { r with seat := s, was := a } := ⟨h.id0, h.id1, h.til0, h.til1, h.size⟩

set_option maxRecDepth 100000 in
set_option maxHeartbeats 2000000 in
theorem May_any (r : Rec) (w : World) (hr : r.Ok) (hG : GP w) : Calls Tryd.prog 14 #[r.val] w fun e w' => e = .returned (.bool (may2 r)) ∧ Below w.heap.size w w' := by
  have hc := fun W hG => plain_any { r with seat := 0, was := -1 } W (hr.at 0 (-1)) hG
  have ha := fun W => stands_any r.seat W
  have hb := fun W => stands_any r.was W
  cases h1 : stB r.seat with
  | false =>
    have HE : Hid (may2 r = false) := by show may2 r = _; simp [may2, h1]
    rw [h1] at ha
    go_enter Tryd.func14, Tryd.ntmps14
    go_wp2_with (go_at_call 29; refine (ha _).mono ?_; rintro e w' ⟨rfl, rfl⟩)
    go_ret
    exact ⟨by rw [HE.out]; rfl, by go_grown⟩
  | true =>
    cases h2 : stB r.was with
    | false =>
      have HE : Hid (may2 r = false) := by show may2 r = _; simp [may2, h2]
      rw [h1] at ha
      rw [h2] at hb
      go_enter Tryd.func14, Tryd.ntmps14
      go_wp2_with (go_at_call 29; first | (have hz := hd; clear hz; refine (hb _).mono ?_; rintro e w2 ⟨rfl, rfl⟩) | (refine (ha _).mono ?_; rintro e w' ⟨rfl, rfl⟩; have hd := True.intro))
      go_ret
      exact ⟨by rw [HE.out]; rfl, by go_grown⟩
    | true =>
      have HE : Hid (may2 r = mayR { r with seat := 0, was := -1 }) := by show may2 r = _; simp [may2, h1, h2]
      rw [h1] at ha
      rw [h2] at hb
      go_enter Tryd.func14, Tryd.ntmps14
      go_wp2_with (first | (go_at_call 29; first | (have hz := hd; clear hz; refine (hb _).mono ?_; rintro e w2 ⟨rfl, rfl⟩) | (refine (ha _).mono ?_; rintro e w' ⟨rfl, rfl⟩; have hd := True.intro)) | (go_at_call 23; refine (hc _ (hG.below (by go_grown))).mono ?_; rintro e w3 ⟨rfl, hB⟩))
      go_ret
      refine ⟨by rw [HE.out]; rfl, ?_⟩
      refine Below.trans ?_ (hB.mono ?_)
      · go_grown
      · simp
        omega
end Go.Proofs.YtinnkaokplmcbaaDoor
