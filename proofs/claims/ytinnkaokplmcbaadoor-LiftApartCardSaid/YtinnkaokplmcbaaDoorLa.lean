/- Records: which may be. -/
import Derived.Test.YtinnkaokplmcbaaDoorRp
import Derived.Laws.StructEq
namespace Go.Proofs.YtinnkaokplmcbaaDoor
open Go.RowKit
set_option linter.unusedVariables false

theorem bstep {w W W' : World} (h : Below w.heap.size w W) (k : Below W.heap.size W W') : Below w.heap.size w W' := h.trans (k.mono h.size)

theorem kept_cell {w w' : World} {cs : Array Value} {t : TypeId} (h : Below (w.alloc (.cells cs t)).heap.size (w.alloc (.cells cs t)) w') (j : Nat) (v : Value) (hv : cs.toList[j]? = some v) : w'.cell? ⟨w.heap.size, j, none⟩ = some v := by
  have hc : (w.alloc (.cells cs t)).cell? ⟨w.heap.size, j, none⟩ = some v := by
    rw [cell_of_row _ _ j _ _ _ (heap_alloc_new w _)]
    simpa using hv
  exact (h.cell (World.block_lt_of_cell? _ _ hc)).trans hc

theorem keep_cell {w w' : World} {a : Addr} {v : Value} (h : Below w.heap.size w w') (hc : w.cell? a = some v) : w'.cell? a = some v :=
  (h.cell (World.block_lt_of_cell? _ _ hc)).trans hc

/-- A record. -/
structure Rec where
  hold : Bool
  id : Int
  person : ByteArray
  cls : Int
  seat : Int
  was : Int
  til : Int
abbrev Rec.val (r : Rec) : Value := .agg #[.bool r.hold, .int .u32 r.id, .string r.person, .int .i64 r.cls, .int .i64 r.seat, .int .i64 r.was, .int .u64 r.til]
structure Rec.Ok (r : Rec) : Prop where
  id0 : 0 ≤ r.id
  id1 : r.id < 4294967296
  til0 : 0 ≤ r.til
  til1 : r.til < 18446744073709551616
  size : r.person.size ≤ 140737488351232

/-- Whether a record may be one of the first version. -/
def mayR (r : Rec) : Bool := decide (0 < r.id) && personB r.person.data.toList && decide (0 ≤ r.cls) && decide (r.cls ≤ 2) && decide (0 ≤ r.seat) && decide (r.seat ≤ 63) && decide (r.was = -1) && (r.hold || r.til == 0)

set_option maxRecDepth 100000 in
set_option maxHeartbeats 4000000 in
theorem rMay_any (r : Rec) (w : World) (hr : r.Ok) : Calls Tryd.prog 26 #[r.val] w fun e w' => e = .returned (.bool (mayR r)) ∧ Below w.heap.size w w' := by
  obtain ⟨hold, id, p, cls, seat, was, til⟩ := r
  have hps : p.size ≤ 140737488351232 := hr.size
  clear hr
  have HB : Below w.heap.size w (w.alloc (.cells #[.bool hold, .int .u32 id, .string p, .int .i64 cls, .int .i64 seat, .int .i64 was, .int .u64 til] 25)) := (Below.refl _ _).alloc (Nat.le_refl _) _
  by_cases h1 : 0 < id
  · cases h2 : personB p.data.toList with
    | true =>
      by_cases h3 : 0 ≤ cls
      · by_cases h4 : cls ≤ 2
        · by_cases h5 : 0 ≤ seat
          · by_cases h6 : seat ≤ 63
            · by_cases h7 : was = -1
              · subst h7
                cases hold with
                | true =>
                  have HE : Hid (mayR ⟨true, id, p, cls, seat, -1, til⟩ = true) := by show mayR _ = _; first | (simp [mayR, *]; done) | (simp [mayR, *, (show seat ≤ 63 by omega)]; done) | (simp [mayR, *]; omega)
                  go_enter Tryd.func26, Tryd.ntmps26
                  go_wp2_with (go_at_call 35; refine (rperson_any p _ hps).mono ?_; rintro e w' ⟨rfl, hB⟩; have k0 := kept_cell hB 0 _ rfl; have k1 := kept_cell hB 1 _ rfl; have k2 := kept_cell hB 2 _ rfl; have k3 := kept_cell hB 3 _ rfl; have k4 := kept_cell hB 4 _ rfl; have k5 := kept_cell hB 5 _ rfl; have k6 := kept_cell hB 6 _ rfl; replace HB := bstep HB hB; clear hB)
                  go_ret
                  exact ⟨by rw [HE.out]; rfl, HB⟩
                | false =>
                  have HE : Hid (mayR ⟨false, id, p, cls, seat, -1, til⟩ = (til == 0)) := by show mayR _ = _; first | (simp [mayR, *]; done) | (simp [mayR, *, (show seat ≤ 63 by omega)]; done) | (simp [mayR, *]; omega)
                  go_enter Tryd.func26, Tryd.ntmps26
                  go_wp2_with (go_at_call 35; refine (rperson_any p _ hps).mono ?_; rintro e w' ⟨rfl, hB⟩; have k0 := kept_cell hB 0 _ rfl; have k1 := kept_cell hB 1 _ rfl; have k2 := kept_cell hB 2 _ rfl; have k3 := kept_cell hB 3 _ rfl; have k4 := kept_cell hB 4 _ rfl; have k5 := kept_cell hB 5 _ rfl; have k6 := kept_cell hB 6 _ rfl; replace HB := bstep HB hB; clear hB)
                  go_ret
                  exact ⟨by rw [HE.out]; rfl, HB⟩
              · have HE : Hid (mayR ⟨hold, id, p, cls, seat, was, til⟩ = false) := by show mayR _ = _; first | (simp [mayR, *]; done) | (simp [mayR, *, (show seat ≤ 63 by omega)]; done) | (simp [mayR, *]; omega)
                go_enter Tryd.func26, Tryd.ntmps26
                go_wp2_with (go_at_call 35; refine (rperson_any p _ hps).mono ?_; rintro e w' ⟨rfl, hB⟩; have k0 := kept_cell hB 0 _ rfl; have k1 := kept_cell hB 1 _ rfl; have k2 := kept_cell hB 2 _ rfl; have k3 := kept_cell hB 3 _ rfl; have k4 := kept_cell hB 4 _ rfl; have k5 := kept_cell hB 5 _ rfl; have k6 := kept_cell hB 6 _ rfl; replace HB := bstep HB hB; clear hB)
                go_ret
                exact ⟨by rw [HE.out]; rfl, HB⟩
            · have HE : Hid (mayR ⟨hold, id, p, cls, seat, was, til⟩ = false) := by show mayR _ = _; first | (simp [mayR, *]; done) | (simp [mayR, *, (show seat ≤ 63 by omega)]; done) | (simp [mayR, *]; omega)
              go_enter Tryd.func26, Tryd.ntmps26
              go_wp2_with (go_at_call 35; refine (rperson_any p _ hps).mono ?_; rintro e w' ⟨rfl, hB⟩; have k0 := kept_cell hB 0 _ rfl; have k1 := kept_cell hB 1 _ rfl; have k2 := kept_cell hB 2 _ rfl; have k3 := kept_cell hB 3 _ rfl; have k4 := kept_cell hB 4 _ rfl; have k5 := kept_cell hB 5 _ rfl; have k6 := kept_cell hB 6 _ rfl; replace HB := bstep HB hB; clear hB)
              go_ret
              exact ⟨by rw [HE.out]; rfl, HB⟩
          · have HE : Hid (mayR ⟨hold, id, p, cls, seat, was, til⟩ = false) := by show mayR _ = _; first | (simp [mayR, *]; done) | (simp [mayR, *, (show seat ≤ 63 by omega)]; done) | (simp [mayR, *]; omega)
            go_enter Tryd.func26, Tryd.ntmps26
            go_wp2_with (go_at_call 35; refine (rperson_any p _ hps).mono ?_; rintro e w' ⟨rfl, hB⟩; have k0 := kept_cell hB 0 _ rfl; have k1 := kept_cell hB 1 _ rfl; have k2 := kept_cell hB 2 _ rfl; have k3 := kept_cell hB 3 _ rfl; have k4 := kept_cell hB 4 _ rfl; have k5 := kept_cell hB 5 _ rfl; have k6 := kept_cell hB 6 _ rfl; replace HB := bstep HB hB; clear hB)
            go_ret
            exact ⟨by rw [HE.out]; rfl, HB⟩
        · have HE : Hid (mayR ⟨hold, id, p, cls, seat, was, til⟩ = false) := by show mayR _ = _; first | (simp [mayR, *]; done) | (simp [mayR, *, (show seat ≤ 63 by omega)]; done) | (simp [mayR, *]; omega)
          go_enter Tryd.func26, Tryd.ntmps26
          go_wp2_with (go_at_call 35; refine (rperson_any p _ hps).mono ?_; rintro e w' ⟨rfl, hB⟩; have k0 := kept_cell hB 0 _ rfl; have k1 := kept_cell hB 1 _ rfl; have k2 := kept_cell hB 2 _ rfl; have k3 := kept_cell hB 3 _ rfl; have k4 := kept_cell hB 4 _ rfl; have k5 := kept_cell hB 5 _ rfl; have k6 := kept_cell hB 6 _ rfl; replace HB := bstep HB hB; clear hB)
          go_ret
          exact ⟨by rw [HE.out]; rfl, HB⟩
      · have HE : Hid (mayR ⟨hold, id, p, cls, seat, was, til⟩ = false) := by show mayR _ = _; first | (simp [mayR, *]; done) | (simp [mayR, *, (show seat ≤ 63 by omega)]; done) | (simp [mayR, *]; omega)
        go_enter Tryd.func26, Tryd.ntmps26
        go_wp2_with (go_at_call 35; refine (rperson_any p _ hps).mono ?_; rintro e w' ⟨rfl, hB⟩; have k0 := kept_cell hB 0 _ rfl; have k1 := kept_cell hB 1 _ rfl; have k2 := kept_cell hB 2 _ rfl; have k3 := kept_cell hB 3 _ rfl; have k4 := kept_cell hB 4 _ rfl; have k5 := kept_cell hB 5 _ rfl; have k6 := kept_cell hB 6 _ rfl; replace HB := bstep HB hB; clear hB)
        go_ret
        exact ⟨by rw [HE.out]; rfl, HB⟩
    | false =>
      have HE : Hid (mayR ⟨hold, id, p, cls, seat, was, til⟩ = false) := by show mayR _ = _; first | (simp [mayR, *]; done) | (simp [mayR, *, (show seat ≤ 63 by omega)]; done) | (simp [mayR, *]; omega)
      go_enter Tryd.func26, Tryd.ntmps26
      go_wp2_with (go_at_call 35; refine (rperson_any p _ hps).mono ?_; rintro e w' ⟨rfl, hB⟩; have k0 := kept_cell hB 0 _ rfl; have k1 := kept_cell hB 1 _ rfl; have k2 := kept_cell hB 2 _ rfl; have k3 := kept_cell hB 3 _ rfl; have k4 := kept_cell hB 4 _ rfl; have k5 := kept_cell hB 5 _ rfl; have k6 := kept_cell hB 6 _ rfl; replace HB := bstep HB hB; clear hB)
      go_ret
      exact ⟨by rw [HE.out]; rfl, HB⟩
  · have HE : Hid (mayR ⟨hold, id, p, cls, seat, was, til⟩ = false) := by show mayR _ = _; first | (simp [mayR, *]; done) | (simp [mayR, *, (show seat ≤ 63 by omega)]; done) | (simp [mayR, *]; omega)
    go_enter Tryd.func26, Tryd.ntmps26
    go_wp2_with (go_at_call 35; refine (rperson_any p _ hps).mono ?_; rintro e w' ⟨rfl, hB⟩; have k0 := kept_cell hB 0 _ rfl; have k1 := kept_cell hB 1 _ rfl; have k2 := kept_cell hB 2 _ rfl; have k3 := kept_cell hB 3 _ rfl; have k4 := kept_cell hB 4 _ rfl; have k5 := kept_cell hB 5 _ rfl; have k6 := kept_cell hB 6 _ rfl; replace HB := bstep HB hB; clear hB)
    go_ret
    exact ⟨by rw [HE.out]; rfl, HB⟩

set_option maxRecDepth 100000 in
set_option maxHeartbeats 4000000 in
theorem may_any (r : Rec) (w : World) (hr : r.Ok) (hG : GP w) : Calls Tryd.prog 36 #[r.val] w fun e w' => e = .returned (.bool (mayR r)) ∧ Below w.heap.size w w' := by
  obtain ⟨hold, id, p, cls, seat, was, til⟩ := r
  have hps : p.size ≤ 140737488351232 := hr.size
  clear hr
  have HB : Below w.heap.size w (w.alloc (.cells #[.bool hold, .int .u32 id, .string p, .int .i64 cls, .int .i64 seat, .int .i64 was, .int .u64 til] 25)) := (Below.refl _ _).alloc (Nat.le_refl _) _
  by_cases h1 : 0 < id
  · cases h2 : personB p.data.toList with
    | true =>
      by_cases h3 : 0 ≤ cls
      · by_cases h4 : cls ≤ 2
        · by_cases h5 : 0 ≤ seat
          · by_cases h6 : seat < 64
            · by_cases h7 : was = -1
              · subst h7
                cases hold with
                | true =>
                  have HE : Hid (mayR ⟨true, id, p, cls, seat, -1, til⟩ = true) := by show mayR _ = _; first | (simp [mayR, *]; done) | (simp [mayR, *, (show seat ≤ 63 by omega)]; done) | (simp [mayR, *]; omega)
                  go_enter Tryd.func36, Tryd.ntmps36
                  go_wp2_with (go_at_call 41; refine (person_any p _ hps (hG.below HB)).mono ?_; rintro e w' ⟨rfl, hB⟩; have k0 := kept_cell hB 0 _ rfl; have k1 := kept_cell hB 1 _ rfl; have k2 := kept_cell hB 2 _ rfl; have k3 := kept_cell hB 3 _ rfl; have k4 := kept_cell hB 4 _ rfl; have k5 := kept_cell hB 5 _ rfl; have k6 := kept_cell hB 6 _ rfl; replace HB := bstep HB hB; clear hB)
                  go_ret
                  exact ⟨by rw [HE.out]; rfl, HB⟩
                | false =>
                  have HE : Hid (mayR ⟨false, id, p, cls, seat, -1, til⟩ = (til == 0)) := by show mayR _ = _; first | (simp [mayR, *]; done) | (simp [mayR, *, (show seat ≤ 63 by omega)]; done) | (simp [mayR, *]; omega)
                  go_enter Tryd.func36, Tryd.ntmps36
                  go_wp2_with (go_at_call 41; refine (person_any p _ hps (hG.below HB)).mono ?_; rintro e w' ⟨rfl, hB⟩; have k0 := kept_cell hB 0 _ rfl; have k1 := kept_cell hB 1 _ rfl; have k2 := kept_cell hB 2 _ rfl; have k3 := kept_cell hB 3 _ rfl; have k4 := kept_cell hB 4 _ rfl; have k5 := kept_cell hB 5 _ rfl; have k6 := kept_cell hB 6 _ rfl; replace HB := bstep HB hB; clear hB)
                  go_ret
                  exact ⟨by rw [HE.out]; rfl, HB⟩
              · have HE : Hid (mayR ⟨hold, id, p, cls, seat, was, til⟩ = false) := by show mayR _ = _; first | (simp [mayR, *]; done) | (simp [mayR, *, (show seat ≤ 63 by omega)]; done) | (simp [mayR, *]; omega)
                go_enter Tryd.func36, Tryd.ntmps36
                go_wp2_with (go_at_call 41; refine (person_any p _ hps (hG.below HB)).mono ?_; rintro e w' ⟨rfl, hB⟩; have k0 := kept_cell hB 0 _ rfl; have k1 := kept_cell hB 1 _ rfl; have k2 := kept_cell hB 2 _ rfl; have k3 := kept_cell hB 3 _ rfl; have k4 := kept_cell hB 4 _ rfl; have k5 := kept_cell hB 5 _ rfl; have k6 := kept_cell hB 6 _ rfl; replace HB := bstep HB hB; clear hB)
                go_ret
                exact ⟨by rw [HE.out]; rfl, HB⟩
            · have HE : Hid (mayR ⟨hold, id, p, cls, seat, was, til⟩ = false) := by show mayR _ = _; first | (simp [mayR, *]; done) | (simp [mayR, *, (show seat ≤ 63 by omega)]; done) | (simp [mayR, *]; omega)
              go_enter Tryd.func36, Tryd.ntmps36
              go_wp2_with (go_at_call 41; refine (person_any p _ hps (hG.below HB)).mono ?_; rintro e w' ⟨rfl, hB⟩; have k0 := kept_cell hB 0 _ rfl; have k1 := kept_cell hB 1 _ rfl; have k2 := kept_cell hB 2 _ rfl; have k3 := kept_cell hB 3 _ rfl; have k4 := kept_cell hB 4 _ rfl; have k5 := kept_cell hB 5 _ rfl; have k6 := kept_cell hB 6 _ rfl; replace HB := bstep HB hB; clear hB)
              go_ret
              exact ⟨by rw [HE.out]; rfl, HB⟩
          · have HE : Hid (mayR ⟨hold, id, p, cls, seat, was, til⟩ = false) := by show mayR _ = _; first | (simp [mayR, *]; done) | (simp [mayR, *, (show seat ≤ 63 by omega)]; done) | (simp [mayR, *]; omega)
            go_enter Tryd.func36, Tryd.ntmps36
            go_wp2_with (go_at_call 41; refine (person_any p _ hps (hG.below HB)).mono ?_; rintro e w' ⟨rfl, hB⟩; have k0 := kept_cell hB 0 _ rfl; have k1 := kept_cell hB 1 _ rfl; have k2 := kept_cell hB 2 _ rfl; have k3 := kept_cell hB 3 _ rfl; have k4 := kept_cell hB 4 _ rfl; have k5 := kept_cell hB 5 _ rfl; have k6 := kept_cell hB 6 _ rfl; replace HB := bstep HB hB; clear hB)
            go_ret
            exact ⟨by rw [HE.out]; rfl, HB⟩
        · have HE : Hid (mayR ⟨hold, id, p, cls, seat, was, til⟩ = false) := by show mayR _ = _; first | (simp [mayR, *]; done) | (simp [mayR, *, (show seat ≤ 63 by omega)]; done) | (simp [mayR, *]; omega)
          go_enter Tryd.func36, Tryd.ntmps36
          go_wp2_with (go_at_call 41; refine (person_any p _ hps (hG.below HB)).mono ?_; rintro e w' ⟨rfl, hB⟩; have k0 := kept_cell hB 0 _ rfl; have k1 := kept_cell hB 1 _ rfl; have k2 := kept_cell hB 2 _ rfl; have k3 := kept_cell hB 3 _ rfl; have k4 := kept_cell hB 4 _ rfl; have k5 := kept_cell hB 5 _ rfl; have k6 := kept_cell hB 6 _ rfl; replace HB := bstep HB hB; clear hB)
          go_ret
          exact ⟨by rw [HE.out]; rfl, HB⟩
      · have HE : Hid (mayR ⟨hold, id, p, cls, seat, was, til⟩ = false) := by show mayR _ = _; first | (simp [mayR, *]; done) | (simp [mayR, *, (show seat ≤ 63 by omega)]; done) | (simp [mayR, *]; omega)
        go_enter Tryd.func36, Tryd.ntmps36
        go_wp2_with (go_at_call 41; refine (person_any p _ hps (hG.below HB)).mono ?_; rintro e w' ⟨rfl, hB⟩; have k0 := kept_cell hB 0 _ rfl; have k1 := kept_cell hB 1 _ rfl; have k2 := kept_cell hB 2 _ rfl; have k3 := kept_cell hB 3 _ rfl; have k4 := kept_cell hB 4 _ rfl; have k5 := kept_cell hB 5 _ rfl; have k6 := kept_cell hB 6 _ rfl; replace HB := bstep HB hB; clear hB)
        go_ret
        exact ⟨by rw [HE.out]; rfl, HB⟩
    | false =>
      have HE : Hid (mayR ⟨hold, id, p, cls, seat, was, til⟩ = false) := by show mayR _ = _; first | (simp [mayR, *]; done) | (simp [mayR, *, (show seat ≤ 63 by omega)]; done) | (simp [mayR, *]; omega)
      go_enter Tryd.func36, Tryd.ntmps36
      go_wp2_with (go_at_call 41; refine (person_any p _ hps (hG.below HB)).mono ?_; rintro e w' ⟨rfl, hB⟩; have k0 := kept_cell hB 0 _ rfl; have k1 := kept_cell hB 1 _ rfl; have k2 := kept_cell hB 2 _ rfl; have k3 := kept_cell hB 3 _ rfl; have k4 := kept_cell hB 4 _ rfl; have k5 := kept_cell hB 5 _ rfl; have k6 := kept_cell hB 6 _ rfl; replace HB := bstep HB hB; clear hB)
      go_ret
      exact ⟨by rw [HE.out]; rfl, HB⟩
  · have HE : Hid (mayR ⟨hold, id, p, cls, seat, was, til⟩ = false) := by show mayR _ = _; first | (simp [mayR, *]; done) | (simp [mayR, *, (show seat ≤ 63 by omega)]; done) | (simp [mayR, *]; omega)
    go_enter Tryd.func36, Tryd.ntmps36
    go_wp2_with (go_at_call 41; refine (person_any p _ hps (hG.below HB)).mono ?_; rintro e w' ⟨rfl, hB⟩; have k0 := kept_cell hB 0 _ rfl; have k1 := kept_cell hB 1 _ rfl; have k2 := kept_cell hB 2 _ rfl; have k3 := kept_cell hB 3 _ rfl; have k4 := kept_cell hB 4 _ rfl; have k5 := kept_cell hB 5 _ rfl; have k6 := kept_cell hB 6 _ rfl; replace HB := bstep HB hB; clear hB)
    go_ret
    exact ⟨by rw [HE.out]; rfl, HB⟩

end Go.Proofs.YtinnkaokplmcbaaDoor
