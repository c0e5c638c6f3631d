/- Records: PutRec, plain. -/
import Derived.Test.YtinnkaokplmcbaaDoorLa
import Derived.Test.YtinnkaokplmcbaaDoorC
import Derived.Test.YtinnkaokplmcbaaDoorA64
import Derived.Deep.RegionHeld3
namespace Go.Proofs.YtinnkaokplmcbaaDoor
open Go.RowKit
set_option linter.unusedVariables false
set_option linter.unusedSimpArgs false

theorem beB_len (k : Nat) : ∀ n, (beB k n).length = k := by
  induction k with
  | zero => intro n; rfl
  | succ k ih => intro n; simp [beB, ih]
theorem textB_len (l : List UInt8) : (textB l).length ≤ 256 := by
  unfold textB
  split
  · simp only [List.length_cons]; omega
  · simp

/-- A record's bytes. -/
def recB (r : Rec) : List UInt8 :=
  (((((([] ++ beB 1 (1 : Int).toNat) ++ beB 1 (if r.hold then (2 : Int) else 1).toNat) ++ beB 4 r.id.toNat) ++ beB 1 r.cls.toNat) ++ beB 1 r.seat.toNat) ++ textB r.person.data.toList) ++ (if r.hold then beB 8 r.til.toNat else [])

theorem drew1 (w : World) : Below w.heap.size w w.drew := ⟨rfl, rfl, rfl, Nat.le_refl _, fun _ _ => rfl⟩
theorem ret_str {a b : List UInt8} (h : a = b) : Ending.returned (.tuple #[.string ⟨a.toArray⟩, .int .i64 0]) = Ending.returned (.tuple #[.string ⟨b.toArray⟩, .int .i64 0]) := by rw [h]

set_option maxRecDepth 100000 in
set_option maxHeartbeats 8000000 in
theorem putRec_any (r : Rec) (w : World) (hr : r.Ok) (hG : GP w) : Calls Tryd.prog 34 #[r.val] w fun e w' => e = .returned (if mayR r = true then .tuple #[.string ⟨(recB r).toArray⟩, .int .i64 0] else .tuple #[.string ByteArray.empty, .int .i64 2]) ∧ Below w.heap.size w w' := by
  obtain ⟨hold, id, p, cls, seat, was, til⟩ := r
  have HB : Below w.heap.size w (w.alloc (.cells #[.bool hold, .int .u32 id, .string p, .int .i64 cls, .int .i64 seat, .int .i64 was, .int .u64 til] 25)) := (Below.refl _ _).alloc (Nat.le_refl _) _
  have hps : p.size ≤ 140737488351232 := hr.size
  have hid0 : 0 ≤ id := hr.id0
  have hid1 : id < 4294967296 := hr.id1
  have ht0 : 0 ≤ til := hr.til0
  have ht1 : til < 18446744073709551616 := hr.til1
  cases hm : mayR ⟨hold, id, p, cls, seat, was, til⟩ with
  | false =>
    rw [if_neg (by simp)]
    go_enter Tryd.func34, Tryd.ntmps34
    go_wp2_with (go_at_call 36; refine (may_any ⟨hold, id, p, cls, seat, was, til⟩ _ hr (hG.below HB)).mono ?_; rintro e w' ⟨rfl, hB⟩; replace HB := bstep HB hB; clear hB)
    go_ret2
    exact ⟨rfl, HB⟩
  | true =>
   have hb : 0 ≤ cls ∧ cls ≤ 2 ∧ 0 ≤ seat ∧ seat ≤ 63 := by
    have hx := hm
    simp [mayR] at hx
    omega
   have hM : Hid (mayR ⟨hold, id, p, cls, seat, was, til⟩ = true) := hm
   rw [if_pos rfl]
   cases hold with
   | false =>
    go_enter Tryd.func34, Tryd.ntmps34
    go_wp2_with (go_at_call 36; refine (may_any ⟨false, id, p, cls, seat, was, til⟩ _ hr (hG.below HB)).mono ?_; rintro e w' ⟨rfl, hB⟩; have k0 := kept_cell hB 0 _ rfl; have k1 := kept_cell hB 1 _ rfl; have k2 := kept_cell hB 2 _ rfl; have k3 := kept_cell hB 3 _ rfl; have k4 := kept_cell hB 4 _ rfl; have k5 := kept_cell hB 5 _ rfl; have k6 := kept_cell hB 6 _ rfl; replace HB := bstep HB hB; clear hB)
    have HR := drew1 w'
    obtain ⟨B, hBB⟩ : ∃ B, B = w.heap.size := ⟨_, rfl⟩
    rw [← hBB] at k0 k1 k2 k3 k4 k5 k6 ⊢
    clear hBB hm
    go_region_held3 (fun w' => w'.cell? ⟨B, 1, none⟩ = some (.int .u32 id)) (first | go_keep | (exact keep_cell HR k1)) (first | (go_at_call 38; (first | (have hz := hr1; clear hz; refine (P8_any _ _ _ _ hr1 (by omega) (by omega) (by simp [beB_len])).mono ?_; rintro e w2 ⟨v2, rfl, ho2, hB⟩; have hr2 := RdB.own ho2; replace HR := bstep HR hB; clear hB ho2) | (refine (P8_any _ [] _ _ (RdB.nil _) (by omega) (by omega) (by simp)).mono ?_; rintro e w1 ⟨v1, rfl, ho1, hB⟩; have hr1 := RdB.own ho1; replace HR := bstep HR hB; clear hB ho1))) | (go_at_call 37; refine (P32_any _ _ _ _ hr2 hid0 hid1 (by simp [beB_len])).mono ?_; rintro e w3 ⟨v3, rfl, ho3, hB⟩; have hr3 := RdB.own ho3; replace HR := bstep HR hB; clear hB ho3))
    go_wp2_with fail
    clear hr1 hr2
    have HB2 := bstep HB HR
    replace k0 := keep_cell HR k0
    replace k2 := keep_cell HR k2
    replace k3 := keep_cell HR k3
    replace k4 := keep_cell HR k4
    replace k6 := keep_cell HR k6
    clear HR k1 k5 HB
    have HR := drew1 w3
    replace hr3 := hr3.below HR
    go_region_held3 (fun w' => w'.cell? ⟨B, 2, none⟩ = some (.string p) ∧ w'.cell? ⟨B, 3, none⟩ = some (.int .i64 cls) ∧ w'.cell? ⟨B, 4, none⟩ = some (.int .i64 seat)) (first | go_keep | (exact ⟨keep_cell HR k2, keep_cell HR k3, keep_cell HR k4⟩)) (first | (go_at_call 38; (first | (have hz := hr4; clear hz; refine (P8_any _ _ _ _ hr4 ?_ ?_ ?_).mono ?_; (first | omega | (simp only [IntKind.wrap_u8]; omega)); (first | omega | (simp only [IntKind.wrap_u8]; omega)); (simp [beB_len]); rintro e w5 ⟨v5, rfl, ho5, hB⟩; have hr5 := RdB.own ho5; replace HR := bstep HR hB; clear hB ho5 hr4) | (refine (P8_any _ _ _ _ hr3 ?_ ?_ ?_).mono ?_; (first | omega | (simp only [IntKind.wrap_u8]; omega)); (first | omega | (simp only [IntKind.wrap_u8]; omega)); (simp [beB_len]); rintro e w4 ⟨v4, rfl, ho4, hB⟩; have hr4 := RdB.own ho4; replace HR := bstep HR hB; clear hB ho4 hr3))) | (go_at_call 39; refine (PText_any _ _ _ _ hr5 hps (by simp [beB_len])).mono ?_; rintro e w6 ⟨v6, rfl, ho6, hB⟩; have hr6 := RdB.own ho6; replace HR := bstep HR hB; clear hB ho6 hr5))
    have ht := textB_len p.data.toList
    replace HB2 := bstep HB2 HR
    replace k0 := keep_cell HR k0
    replace k6 := keep_cell HR k6
    clear HR k2 k3 k4
    have hcv := hr6.str (P := Tryd.prog) 72 9 5 Tryd.underlying72 Tryd.underlying5 Tryd.underlying9
    go_wp2_with fail
    go_ret2
    refine ⟨ret_str ?_, HB2⟩
    simp only [recB, if_true, if_false, Bool.false_eq_true, List.append_assoc, List.nil_append, List.append_nil]
    rfl
   | true =>
    go_enter Tryd.func34, Tryd.ntmps34
    go_wp2_with (go_at_call 36; refine (may_any ⟨true, id, p, cls, seat, was, til⟩ _ hr (hG.below HB)).mono ?_; rintro e w' ⟨rfl, hB⟩; have k0 := kept_cell hB 0 _ rfl; have k1 := kept_cell hB 1 _ rfl; have k2 := kept_cell hB 2 _ rfl; have k3 := kept_cell hB 3 _ rfl; have k4 := kept_cell hB 4 _ rfl; have k5 := kept_cell hB 5 _ rfl; have k6 := kept_cell hB 6 _ rfl; replace HB := bstep HB hB; clear hB)
    have HR := drew1 w'
    obtain ⟨B, hBB⟩ : ∃ B, B = w.heap.size := ⟨_, rfl⟩
    rw [← hBB] at k0 k1 k2 k3 k4 k5 k6 ⊢
    clear hBB hm
    go_region_held3 (fun w' => w'.cell? ⟨B, 1, none⟩ = some (.int .u32 id)) (first | go_keep | (exact keep_cell HR k1)) (first | (go_at_call 38; (first | (have hz := hr1; clear hz; refine (P8_any _ _ _ _ hr1 (by omega) (by omega) (by simp [beB_len])).mono ?_; rintro e w2 ⟨v2, rfl, ho2, hB⟩; have hr2 := RdB.own ho2; replace HR := bstep HR hB; clear hB ho2) | (refine (P8_any _ [] _ _ (RdB.nil _) (by omega) (by omega) (by simp)).mono ?_; rintro e w1 ⟨v1, rfl, ho1, hB⟩; have hr1 := RdB.own ho1; replace HR := bstep HR hB; clear hB ho1))) | (go_at_call 37; refine (P32_any _ _ _ _ hr2 hid0 hid1 (by simp [beB_len])).mono ?_; rintro e w3 ⟨v3, rfl, ho3, hB⟩; have hr3 := RdB.own ho3; replace HR := bstep HR hB; clear hB ho3))
    go_wp2_with fail
    clear hr1 hr2
    have HB2 := bstep HB HR
    replace k0 := keep_cell HR k0
    replace k2 := keep_cell HR k2
    replace k3 := keep_cell HR k3
    replace k4 := keep_cell HR k4
    replace k6 := keep_cell HR k6
    clear HR k1 k5 HB
    have HR := drew1 w3
    replace hr3 := hr3.below HR
    go_region_held3 (fun w' => w'.cell? ⟨B, 2, none⟩ = some (.string p) ∧ w'.cell? ⟨B, 3, none⟩ = some (.int .i64 cls) ∧ w'.cell? ⟨B, 4, none⟩ = some (.int .i64 seat)) (first | go_keep | (exact ⟨keep_cell HR k2, keep_cell HR k3, keep_cell HR k4⟩)) (first | (go_at_call 38; (first | (have hz := hr4; clear hz; refine (P8_any _ _ _ _ hr4 ?_ ?_ ?_).mono ?_; (first | omega | (simp only [IntKind.wrap_u8]; omega)); (first | omega | (simp only [IntKind.wrap_u8]; omega)); (simp [beB_len]); rintro e w5 ⟨v5, rfl, ho5, hB⟩; have hr5 := RdB.own ho5; replace HR := bstep HR hB; clear hB ho5 hr4) | (refine (P8_any _ _ _ _ hr3 ?_ ?_ ?_).mono ?_; (first | omega | (simp only [IntKind.wrap_u8]; omega)); (first | omega | (simp only [IntKind.wrap_u8]; omega)); (simp [beB_len]); rintro e w4 ⟨v4, rfl, ho4, hB⟩; have hr4 := RdB.own ho4; replace HR := bstep HR hB; clear hB ho4 hr3))) | (go_at_call 39; refine (PText_any _ _ _ _ hr5 hps (by simp [beB_len])).mono ?_; rintro e w6 ⟨v6, rfl, ho6, hB⟩; have hr6 := RdB.own ho6; replace HR := bstep HR hB; clear hB ho6 hr5))
    have ht := textB_len p.data.toList
    replace HB2 := bstep HB2 HR
    replace k0 := keep_cell HR k0
    replace k6 := keep_cell HR k6
    clear HR k2 k3 k4
    go_wp2_with (go_at_call 40; refine (P64_any _ _ _ _ hr6 ht0 ht1 ?_).mono ?_; (simp [beB_len]; omega); rintro e w7 ⟨v7, rfl, ho7, hB⟩; have hr7 := RdB.own ho7; have hcv := hr7.str (P := Tryd.prog) 72 9 5 Tryd.underlying72 Tryd.underlying5 Tryd.underlying9; replace HB2 := bstep HB2 hB; clear hB ho7 hr6)
    go_ret2
    refine ⟨ret_str ?_, HB2⟩
    simp only [recB, if_true, if_false, Bool.false_eq_true, List.append_assoc, List.nil_append, List.append_nil]
    rfl

set_option maxHeartbeats 2000000 in
theorem plain_any (r : Rec) (w : World) (hr : r.Ok) (hG : GP w) : Calls Tryd.prog 23 #[r.val] w fun e w' => e = .returned (.bool (mayR r)) ∧ Below w.heap.size w w' := by
  have HB : Below w.heap.size w (w.alloc (.cells #[.bool r.hold, .int .u32 r.id, .string r.person, .int .i64 r.cls, .int .i64 r.seat, .int .i64 r.was, .int .u64 r.til] 25)) := (Below.refl _ _).alloc (Nat.le_refl _) _
  have hc := fun W hG => putRec_any r W hr hG
  cases hm : mayR r with
  | false =>
    simp only [hm, Bool.false_eq_true, if_false] at hc
    go_enter Tryd.func23, Tryd.ntmps23
    go_wp2_with (go_at_call 34; refine (hc _ (hG.below HB)).mono ?_; rintro e w' ⟨rfl, hB⟩; replace HB := bstep HB hB; clear hB)
    go_ret
    exact ⟨rfl, HB⟩
  | true =>
    simp only [hm, if_true] at hc
    go_enter Tryd.func23, Tryd.ntmps23
    go_wp2_with (go_at_call 34; refine (hc _ (hG.below HB)).mono ?_; rintro e w' ⟨rfl, hB⟩; replace HB := bstep HB hB; clear hB)
    go_ret
    exact ⟨rfl, HB⟩
end Go.Proofs.YtinnkaokplmcbaaDoor
