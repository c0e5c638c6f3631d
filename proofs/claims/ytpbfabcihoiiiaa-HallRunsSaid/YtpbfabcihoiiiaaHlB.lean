/- The chapter's examples, as the law asks them. -/
import Derived.Test.YtpbfabcihoiiiaaHlA
import Derived.Deep.RegionHeld3
namespace Go.Proofs.Ytpbfabcihoiiiaa
open Go.RowKit
set_option linter.unusedVariables false
set_option linter.unusedSimpArgs false

def smR : List HRow := [(0, 15), (2, 129)]
def smS : ByteArray := ⟨#[48, 35, 35, 35, 35, 46, 46, 46, 46, 47, 50, 35, 46, 46, 46, 46, 46, 46, 35]⟩
theorem sm_ok : okH smR = true := by decide
theorem sm_put : putS smR = smS := by rw [putS_yes sm_ok]; rfl
theorem sm_read : readT 8 0 smS.data.toList = .inl smR := by decide
theorem sm_sts : sts smR = [(0, 0), (1, 0), (2, 0), (3, 0), (8, 2), (15, 2)] := by decide
theorem sm_run : (rnF 0 (fun j => (2 : Nat).testBit j) (sts smR)).1 = [(0, 1), (2, 2)] := by decide
theorem sm_c15 : clsS smR 15 = 2 := by decide
theorem sm_c4 : clsS smR 4 = -1 := by decide
theorem same_no : decide (smR = []) = false := by decide
theorem same_yes : decide (smR = smR) = true := by decide
theorem sm_any (w : World) : Calls Try.prog 17 #[] w fun e w' => ∃ v, e = .returned (.agg #[v]) ∧ RdH w' v smR ∧ Below w.heap.size w w' := small_any w
theorem trans' {w0 w w' : World} (h : Below w0.heap.size w0 w) (k : Below w.heap.size w w') : Below w0.heap.size w0 w' := h.trans (k.mono h.size)

theorem same_sm (v1 v2 : Value) (w : World) (h1 : RdH w v1 smR) (h2 : RdH w v2 smR) : Calls Try.prog 10 #[.agg #[v1], .agg #[v2]] w fun e w' => e = .returned (.bool true) ∧ Below w.heap.size w w' := by
  have q := same_any v1 v2 smR smR w h1 h2 (by decide) (by decide)
  rw [same_yes] at q
  exact q
theorem same_nil (v1 : Value) (w : World) (h1 : RdH w v1 smR) : Calls Try.prog 10 #[.agg #[v1], .agg #[.slice none 0 0]] w fun e w' => e = .returned (.bool false) ∧ Below w.heap.size w w' := by
  have q := same_any v1 (.slice none 0 0) smR [] w h1 (RdH.nil w) (by decide) (by decide)
  rw [same_no] at q
  exact q
theorem class_15 (v : Value) (w : World) (h : RdH w v smR) : Calls Try.prog 16 #[.agg #[v], .int .i64 15] w fun e w' => e = .returned (.int .i64 2) ∧ Below w.heap.size w w' := by
  have q := class_any v smR 15 w h (by decide)
  rw [sm_c15] at q
  exact q
theorem class_4 (v : Value) (w : World) (h : RdH w v smR) : Calls Try.prog 16 #[.agg #[v], .int .i64 4] w fun e w' => e = .returned (.int .i64 (-1)) ∧ Below w.heap.size w w' := by
  have q := class_any v smR 4 w h (by decide)
  rw [sm_c4] at q
  exact q
theorem RdP.lit (w : World) (T : TypeId) : RdP (w.alloc (.cells #[.int .i64 0, .int .i64 1, .int .i64 2, .int .i64 2] T)) (.slice (some ⟨w.heap.size, 0, none⟩) 2 2) [(0, 1), (2, 2)] := by
  have h := heap_alloc_new w (.cells #[.int .i64 0, .int .i64 1, .int .i64 2, .int .i64 2] T)
  refine ⟨_, _, rfl, Nat.le_refl _, fun k x hx => ?_⟩
  match k, hx with
  | 0, hx =>
    cases hx
    exact ⟨_, rfl, (cell_of_row _ _ 0 _ _ _ h).trans rfl, (cell_of_row _ _ 1 _ _ _ h).trans rfl⟩
  | 1, hx =>
    cases hx
    exact ⟨_, rfl, (cell_of_row _ _ 2 _ _ _ h).trans rfl, (cell_of_row _ _ 3 _ _ _ h).trans rfl⟩
  | k + 2, hx => simp at hx
set_option maxRecDepth 100000 in
set_option maxHeartbeats 8000000 in
theorem works_any (w : World) : Calls Try.prog 5 #[] w fun e w' => e = .returned (.bool true) ∧ Below w.heap.size w w' := by
  go_enter Try.func5, Try.ntmps5
  go_wp2_with fail
  refine (sm_any _).mono ?_
  rintro e w1 ⟨v1, rfl, hR1, hB1⟩
  have HB := Lib.hid hB1
  clear hB1
  go_wp2_with fail
  have q := put_any v1 smR w1 hR1 (by decide)
  rw [sm_put, chk_yes sm_ok] at q
  refine q.mono ?_
  clear q
  rintro e w2 ⟨rfl, hB⟩
  replace HB := Lib.hid (trans' HB.out hB)
  clear hB hR1
  unfold smS
  go_wp2_with fail
  have q := read_any smS w2 (by decide)
  unfold smS at q
  refine q.mono ?_
  clear q
  rintro e w3 ⟨(⟨c, t, a, h, _⟩ | ⟨rows, v3, h, rfl, hR3⟩), hB⟩
  · have := sm_read.symm.trans h
    cases this
  have hrows : smR = rows := by
    have := sm_read.symm.trans h
    injection this
  subst hrows
  replace HB := Lib.hid (trans' HB.out hB)
  clear hB h
  obtain ⟨a3, c3, rfl, hc3, hr3⟩ := hR3
  have HR3 : Hid (RdH w3 (.slice a3 2 c3) smR) := ⟨a3, c3, rfl, hc3, hr3⟩
  clear hr3
  have e2 : smR.length = 2 := rfl
  rw [e2]
  clear hc3 e2
  go_wp2_with fail
  have hB : Below w3.heap.size w3 (w3.alloc (.cells #[.slice a3 2 c3] 26)) := (Below.refl _ _).alloc (Nat.le_refl _) _
  refine (sm_any _).mono ?_
  rintro e w4 ⟨v4, rfl, hR4, hB4⟩
  have k3 : w4.cell? ⟨w3.heap.size, 0, none⟩ = some (.slice a3 2 c3) := keepC hB4 (by go_cell)
  have hl4 : w3.heap.size < w4.heap.size := World.block_lt_of_cell? _ _ k3
  replace HR3 := Lib.hid (HR3.out.below (trans' hB hB4))
  replace HB := Lib.hid (trans' HB.out (trans' hB hB4))
  clear hB hB4
  go_wp2_with fail
  refine (seatsl_any v4 smR w4 hR4 (by decide)).mono ?_
  rintro e w5 ⟨v5, rfl, ho5, hB⟩
  rw [sm_sts] at ho5
  replace k3 := keepC hB k3
  replace HR3 := Lib.hid (HR3.out.below hB)
  replace HB := Lib.hid (trans' HB.out hB)
  rcases own_cells ho5 with ⟨_, h0⟩ | ⟨g5, c5, rfl, hc5, hg5, hcell5⟩
  · simp at h0
  have k5 := hcell5 5 (.int .i64 15) rfl
  rw [show ([(0, 0), (1, 0), (2, 0), (3, 0), (8, 2), (15, 2)] : List (Int × Int)).length = 6 from rfl]
  clear hB ho5 hcell5 hR4 hc5
  go_wp2_with fail
  refine (sm_any _).mono ?_
  rintro e w6 ⟨v6, rfl, hR6, hB⟩
  replace k3 := keepC hB k3
  replace k5 := keepC hB k5
  replace HR3 := Lib.hid (HR3.out.below hB)
  replace HB := Lib.hid (trans' HB.out hB)
  clear hB
  go_wp2_with fail
  refine (taken_any 2 w6 (by decide)).mono ?_
  rintro e w7 ⟨rfl, hB⟩
  replace k3 := keepC hB k3
  replace k5 := keepC hB k5
  replace HR3 := Lib.hid (HR3.out.below hB)
  replace hR6 := hR6.below hB
  replace HB := Lib.hid (trans' HB.out hB)
  clear hB
  go_wp2_with fail
  refine (runs_any v6 smR 0 _ w7 hR6 (by decide)).mono ?_
  rintro e w8 ⟨v8, rfl, ho8, hB⟩
  rw [sm_run] at ho8
  replace k3 := keepC hB k3
  replace k5 := keepC hB k5
  replace HR3 := Lib.hid (HR3.out.below hB)
  replace HB := Lib.hid (trans' HB.out hB)
  have HR8 := Lib.hid (RdP.own (l := [(0, 1), (2, 2)]) ho8)
  clear hB ho8 hR6
  go_wp2_with fail
  have HS0 : w8.cell? ⟨w3.heap.size, 0, none⟩ = some (.slice a3 2 c3) ∧ w8.cell? ⟨g5, 5, none⟩ = some (.int .i64 15) ∧ Below w8.heap.size w8 w8 := ⟨k3, k5, Below.refl _ _⟩
  go_region_held3 (fun w' => w'.cell? ⟨w3.heap.size, 0, none⟩ = some (.slice a3 2 c3) ∧ w'.cell? ⟨g5, 5, none⟩ = some (.int .i64 15) ∧ Below w8.heap.size w8 w') (first | (exact ⟨keepC hBs (‹_ ∧ _ ∧ Below w8.heap.size w8 _›).1, keepC hBs (‹_ ∧ _ ∧ Below w8.heap.size w8 _›).2.1, trans' (‹_ ∧ _ ∧ Below w8.heap.size w8 _›).2.2 hBs⟩) | (exact ⟨(‹_ ∧ _ ∧ Below w8.heap.size w8 _›).1, (‹_ ∧ _ ∧ Below w8.heap.size w8 _›).2.1, (‹_ ∧ _ ∧ Below w8.heap.size w8 _›).2.2.drew⟩) | (refine And.intro ?_ (And.intro ?_ ?_) <;> first | go_keep | (exact (‹_ ∧ _ ∧ Below w8.heap.size w8 _›).2.2.alloc (‹_ ∧ _ ∧ Below w8.heap.size w8 _›).2.2.size _))) (first | (go_at_call 17; refine (sm_any _).mono ?_; rintro e w1 ⟨vs, rfl, hRs, hBs⟩) | (go_at_call 10; first | (refine (same_sm _ _ _ (HR3.out.below (‹_ ∧ _ ∧ Below w8.heap.size w8 _›).2.2) hRs).mono ?_; clear hRs; rintro e w1 ⟨rfl, hBs⟩) | (refine (same_nil _ _ (HR3.out.below (‹_ ∧ _ ∧ Below w8.heap.size w8 _›).2.2)).mono ?_; rintro e w1 ⟨rfl, hBs⟩)) | (go_at_call 16; first | (have _z := h15; refine (class_4 _ _ hRs).mono ?_; rintro e w1 ⟨rfl, hBs⟩) | (refine (class_15 _ _ hRs).mono ?_; have h15 : True := trivial; rintro e w1 ⟨rfl, hBs⟩)) | (go_at_call 18; refine (pairs_same _ _ [(0, 1), (2, 2)] _ (HR8.out.below ((‹_ ∧ _ ∧ Below w8.heap.size w8 _›).2.2)) (RdP.lit _ _) (by decide) (by decide)).mono ?_; rintro e w1 ⟨rfl, hBs⟩))
  go_wp2_with fail
  go_ret
  exact ⟨rfl, trans' HB.out (‹_ ∧ _ ∧ Below w8.heap.size w8 _›).2.2⟩
end Go.Proofs.Ytpbfabcihoiiiaa
