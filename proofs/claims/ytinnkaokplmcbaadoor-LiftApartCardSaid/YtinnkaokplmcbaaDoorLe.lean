/- Records: lifted, and let down. -/
import Derived.Test.YtinnkaokplmcbaaDoorLd
namespace Go.Proofs.YtinnkaokplmcbaaDoor
open Go.RowKit
set_option linter.unusedVariables false

theorem rows3 {w w' : World} {a b c : Obj} (h : Below (((w.alloc a).alloc b).alloc c).heap.size (((w.alloc a).alloc b).alloc c) w') :
    w'.heap[w.heap.size]? = some a ∧ w'.heap[w.heap.size + 1]? = some b ∧ w'.heap[w.heap.size + 2]? = some c := by
  have h1 : Below ((w.alloc a).alloc b).heap.size ((w.alloc a).alloc b) w' := ((Below.refl _ _).alloc (Nat.le_refl _) c).trans (h.mono (by simp))
  exact ⟨row_at2 h1, row_at1 h1, by simpa using row_at h⟩

theorem row2 {w : World} {b : Nat} {v0 v1 : Value} {t : TypeId} (h : w.heap[b]? = some (.cells #[v0, v1] t (0, 0))) : w.cell? ⟨b, 0, none⟩ = some v0 ∧ w.cell? ⟨b, 1, none⟩ = some v1 := by
  refine ⟨?_, ?_⟩ <;> (rw [cell_of_row _ _ _ _ _ _ h]; rfl)

set_option maxRecDepth 100000 in
set_option maxHeartbeats 2000000 in
theorem rMay2_any (r : Rec) (w : World) (hr : r.Ok) : Calls Tryd.prog 15 #[r.val] w fun e w' => e = .returned (.bool (may2 r)) ∧ Below w.heap.size w w' := by
  have hc := fun W => rMay_any { r with seat := 0, was := -1 } W (hr.at 0 (-1))
  have ha := fun W => rseat_any r.seat W
  have hb := fun W => rseat_any r.was W
  cases h1 : stB r.seat with
  | false =>
    have HE : Hid (may2 r = false) := by show may2 r = _; simp [may2, h1]
    rw [h1] at ha
    go_enter Tryd.func15, Tryd.ntmps15
    go_wp2_with (go_at_call 30; refine (ha _).mono ?_; rintro e w' ⟨rfl, rfl⟩)
    go_ret
    exact ⟨by rw [HE.out]; rfl, by go_grown⟩
  | true =>
    cases h2 : stB r.was with
    | false =>
      have HE : Hid (may2 r = false) := by show may2 r = _; simp [may2, h2]
      rw [h1] at ha
      rw [h2] at hb
      go_enter Tryd.func15, Tryd.ntmps15
      go_wp2_with (go_at_call 30; first | (have hz := hd; clear hz; refine (hb _).mono ?_; rintro e w2 ⟨rfl, rfl⟩) | (refine (ha _).mono ?_; rintro e w' ⟨rfl, rfl⟩; have hd := True.intro))
      go_ret
      exact ⟨by rw [HE.out]; rfl, by go_grown⟩
    | true =>
      have HE : Hid (may2 r = mayR { r with seat := 0, was := -1 }) := by show may2 r = _; simp [may2, h1, h2]
      rw [h1] at ha
      rw [h2] at hb
      go_enter Tryd.func15, Tryd.ntmps15
      go_wp2_with (first | (go_at_call 30; first | (have hz := hd; clear hz; refine (hb _).mono ?_; rintro e w2 ⟨rfl, rfl⟩) | (refine (ha _).mono ?_; rintro e w' ⟨rfl, rfl⟩; have hd := True.intro)) | (go_at_call 26; refine (hc _).mono ?_; rintro e w3 ⟨rfl, hB⟩))
      go_ret
      refine ⟨by rw [HE.out]; rfl, ?_⟩
      refine Below.trans ?_ (hB.mono ?_)
      · go_grown
      · simp
        omega

def zeroR : Rec := ⟨false, 0, ⟨#[]⟩, 0, 0, 0, 0⟩
/-- Which record one is lifted to, and the code. -/
def upR (r : Rec) (m : List (Int × Int)) : Rec := if mayR r then { r with was := r.seat, seat := toV (toM m r.seat) } else zeroR
def upE (r : Rec) : Int := if mayR r then 0 else 2
/-- Which record one is let down to, and the code. -/
def downR (r : Rec) : Rec := if may2 r then (if r.was = -1 then zeroR else { r with seat := r.was, was := -1 }) else zeroR
def downE (r : Rec) : Int := if may2 r then (if r.was = -1 then 18 else 0) else 2
theorem ret_rec {r r' : Rec} {c c' : Int} (h : r = r') (hc : c = c') : Ending.returned (.tuple #[.agg #[.bool r.hold, .int .u32 r.id, .string r.person, .int .i64 r.cls, .int .i64 r.seat, .int .i64 r.was, .int .u64 r.til], .int .i64 c]) = Ending.returned (.tuple #[r'.val, .int .i64 c']) := by rw [h, hc]

set_option maxRecDepth 100000 in
set_option maxHeartbeats 4000000 in
theorem wayUp (r : Rec) (m : List (Int × Int)) (v : Value) (w : World) (hr : r.Ok) (hG : GP w) (hv : RdM w v m) (hl : m.length < 1000000) : Calls Tryd.prog 25 #[.agg #[.func (.func 23) #[] #[], .func (.func 24) #[] #[]], r.val, v] w fun e w' => e = .returned (if mayR r = true then .tuple #[Rec.val { r with was := r.seat, seat := toV (toM m r.seat) }, .int .i64 0] else .tuple #[zeroR.val, .int .i64 2]) ∧ Below w.heap.size w w' := by
  have he1 := fun args W => enters Tryd.func23 (by kernel_rfl) rfl args W
  have he2 := fun args W => enters Tryd.func24 (by kernel_rfl) rfl args W
  have HA : ∀ fa : Obj, Below w.heap.size w (((w.alloc fa).alloc (.cells #[.bool r.hold, .int .u32 r.id, .string r.person, .int .i64 r.cls, .int .i64 r.seat, .int .i64 r.was, .int .u64 r.til] 25)).alloc (.cells #[.bool false, .int .u32 0, .string ⟨#[]⟩, .int .i64 0, .int .i64 0, .int .i64 0, .int .u64 0] 25)) := fun fa => (((Below.refl _ _).alloc (Nat.le_refl _) _).alloc (by simp) _).alloc (by simp; omega) _
  have HB := HA (.cells #[.func (.func 23) #[] #[], .func (.func 24) #[] #[]] 62)
  clear HA
  have hm := fun W hG => plain_any r W hr hG
  cases h1 : mayR r with
  | false =>
    rw [if_neg (by simp)]
    rw [h1] at hm
    go_enter Tryd.func25, Tryd.ntmps25
    go_wp2_with (go_at_call 23; refine (hm _ (hG.below HB)).mono ?_; rintro e w1 ⟨rfl, hB⟩; replace HB := bstep HB hB; obtain ⟨⟨q0, q1, q2, q3, q4, q5, q6⟩, g0, g1, g2, g3, g4, g5, g6⟩ := row7 (rows3 hB).2.2; clear hB)
    refine bodyPost_ret (by simp [results, Tryd.results25, go_sem, q0, q1, q2, q3, q4, q5, q6]; try rfl) rfl ?_
    exact ⟨rfl, by go_grown⟩
  | true =>
    rw [if_pos rfl]
    rw [h1] at hm
    go_enter Tryd.func25, Tryd.ntmps25
    go_wp2_with (first | (go_at_call 23; refine (hm _ (hG.below HB)).mono ?_; rintro e w1 ⟨rfl, hB⟩; have hq := (rows3 hB).2.2; obtain ⟨l0, l1⟩ := row2 (rows3 hB).1; obtain ⟨⟨k0, k1, k2, k3, k4, k5, k6⟩, f0, f1, f2, f3, f4, f5, f6⟩ := row7 (rows3 hB).2.1; have hv1 := hv.below (bstep HB hB); replace HB := bstep HB hB; clear hB) | (go_at_call 24; refine (up_any r m v _ hv1 hl).mono ?_; rintro e w2 ⟨rfl, hB⟩; obtain ⟨⟨q0, q1, q2, q3, q4, q5, q6⟩, g0, g1, g2, g3, g4, g5, g6⟩ := row7 (keep_row hB hq); replace HB := bstep HB hB; clear hB; try dsimp only [Rec.val]))
    refine bodyPost_ret (by simp [results, Tryd.results25, go_sem, q0, q1, q2, q3, q4, q5, q6]; try rfl) rfl ?_
    exact ⟨rfl, by go_grown⟩

set_option maxRecDepth 100000 in
set_option maxHeartbeats 4000000 in
theorem wayDown (r : Rec)  (w : World) (hr : r.Ok) (hG : GP w) : Calls Tryd.prog 25 #[.agg #[.func (.func 14) #[] #[], .func (.func 28) #[] #[]], r.val, .slice none 0 0] w fun e w' => e = .returned (if may2 r = true then .tuple #[Rec.val { r with seat := r.was, was := -1 }, .int .i64 0] else .tuple #[zeroR.val, .int .i64 2]) ∧ Below w.heap.size w w' := by
  have he1 := fun args W => enters Tryd.func14 (by kernel_rfl) rfl args W
  have he2 := fun args W => enters Tryd.func28 (by kernel_rfl) rfl args W
  have HA : ∀ fa : Obj, Below w.heap.size w (((w.alloc fa).alloc (.cells #[.bool r.hold, .int .u32 r.id, .string r.person, .int .i64 r.cls, .int .i64 r.seat, .int .i64 r.was, .int .u64 r.til] 25)).alloc (.cells #[.bool false, .int .u32 0, .string ⟨#[]⟩, .int .i64 0, .int .i64 0, .int .i64 0, .int .u64 0] 25)) := fun fa => (((Below.refl _ _).alloc (Nat.le_refl _) _).alloc (by simp) _).alloc (by simp; omega) _
  have HB := HA (.cells #[.func (.func 14) #[] #[], .func (.func 28) #[] #[]] 62)
  clear HA
  have hm := fun W hG => May_any r W hr hG
  cases h1 : may2 r with
  | false =>
    rw [if_neg (by simp)]
    rw [h1] at hm
    go_enter Tryd.func25, Tryd.ntmps25
    go_wp2_with (go_at_call 14; refine (hm _ (hG.below HB)).mono ?_; rintro e w1 ⟨rfl, hB⟩; replace HB := bstep HB hB; obtain ⟨⟨q0, q1, q2, q3, q4, q5, q6⟩, g0, g1, g2, g3, g4, g5, g6⟩ := row7 (rows3 hB).2.2; clear hB)
    refine bodyPost_ret (by simp [results, Tryd.results25, go_sem, q0, q1, q2, q3, q4, q5, q6]; try rfl) rfl ?_
    exact ⟨rfl, by go_grown⟩
  | true =>
    rw [if_pos rfl]
    rw [h1] at hm
    go_enter Tryd.func25, Tryd.ntmps25
    go_wp2_with (first | (go_at_call 14; refine (hm _ (hG.below HB)).mono ?_; rintro e w1 ⟨rfl, hB⟩; have hq := (rows3 hB).2.2; obtain ⟨l0, l1⟩ := row2 (rows3 hB).1; obtain ⟨⟨k0, k1, k2, k3, k4, k5, k6⟩, f0, f1, f2, f3, f4, f5, f6⟩ := row7 (rows3 hB).2.1; replace HB := bstep HB hB; clear hB) | (go_at_call 28; refine (down_any r _).mono ?_; rintro e w2 ⟨rfl, hB⟩; obtain ⟨⟨q0, q1, q2, q3, q4, q5, q6⟩, g0, g1, g2, g3, g4, g5, g6⟩ := row7 (keep_row hB hq); replace HB := bstep HB hB; clear hB; try dsimp only [Rec.val]))
    refine bodyPost_ret (by simp [results, Tryd.results25, go_sem, q0, q1, q2, q3, q4, q5, q6]; try rfl) rfl ?_
    exact ⟨rfl, by go_grown⟩

end Go.Proofs.YtinnkaokplmcbaaDoor
