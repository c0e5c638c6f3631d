/- FreemapKnown: the walk. -/
import Derived.Test.YtdaeibbjoefofaaDoorFmk
namespace Go.Proofs.YtdaeibbjoefofaaDoor
open Go.RowKit
set_option linter.unusedVariables false
set_option linter.unusedSimpArgs false

def K0 : Nat → Bool := fun _ => false
def K1 : Nat → Bool := turnT K0 1024 1023 true
theorem k0_ok : FMOk K0 1024 := ⟨by omega, by omega, fun _ _ => rfl⟩
theorem k1_ok : FMOk K1 1024 := k0_ok.turn _ _
theorem turn_out {T : Nat → Bool} {n : Nat} {i : Int} {u : Bool} (h : inB n i = false) : turnT T n i u = T := by
  unfold turnT
  rw [if_neg (by simp [h])]
theorem k1_at (j : Nat) : K1 j = decide (j = 1023) := by
  show turnT K0 1024 ((1023 : Nat) : Int) true j = _
  rw [turnT_at (by omega)]
  by_cases e : j = 1023
  · simp [e]
  · simp [e, K0]
theorem k1_same : turnT K1 1024 1023 true = K1 := turn_same (k := 1023) (by decide) (by rw [k1_at]; decide)
theorem k1_left : leftN K1 1024 = 1023 := by
  unfold leftN
  have h1 : cnt K1 1023 = cnt (fun _ => false) 1023 := cnt_ext fun i hi => by rw [k1_at]; simp; omega
  rw [cn_eq, show (1024 : Nat) = 1023 + 1 from rfl, cnt_snoc, h1, cnt_none, k1_at]
  decide
theorem c8_not : ¬ Clean [8] 3 := fun h => by
  have := h 3 (by omega)
  revert this
  decide
theorem c5_clean : Clean [5] 3 := fun i hi => by
  by_cases h : i < 8
  · rcases (show i = 3 ∨ i = 4 ∨ i = 5 ∨ i = 6 ∨ i = 7 by omega) with rfl | rfl | rfl | rfl | rfl <;> decide
  · exact bitS_out (by simp; omega)
theorem p5_ok : FMOk (partT [5] 3) 3 := part_ok (by omega) (by omega) (by omega)

set_option maxRecDepth 100000 in
set_option maxHeartbeats 8000000 in
theorem known_any (w : World) (hT : TabD w) : Calls Tryd.prog 7 #[] w fun e w' => e = .returned (.bool true) ∧ Below w.heap.size w w' := by
  have HT := Lib.hid hT
  clear hT
  go_enter Tryd.func7, Tryd.ntmps7
  go_wp2_with fail
  refine (take_nil w).mono ?_
  rintro e w' ⟨rfl, rfl⟩
  go_wp2_with fail
  refine (new_yes 1024 w (by omega) (by omega)).mono ?_
  rintro e w1 ⟨rfl, hw1⟩
  have HM := Lib.hid (show MapAt w1 w.heap.size K0 1024 from MapAt.new (by rw [hw1]; exact heap_alloc_new w _))
  have hB1 : Below w.heap.size w w1 := by rw [hw1]; exact (Below.refl _ _).alloc (Nat.le_refl _) _
  have HB := Lib.hid hB1
  replace HT := Lib.hid (HT.out.below hB1)
  clear hw1 hB1
  go_wp2_with fail
  refine (new_no 0 w1 (by decide)).mono ?_
  rintro e w' ⟨rfl, rfl⟩
  go_wp2_with fail
  refine (new_no 1025 w1 (by decide)).mono ?_
  rintro e w' ⟨rfl, rfl⟩
  go_wp2_with fail
  refine (new_no (-1) w1 (by decide)).mono ?_
  rintro e w' ⟨rfl, rfl⟩
  go_wp2_with fail
  refine (works_any w1 HT.out).mono ?_
  rintro e w2 ⟨rfl, hB⟩
  replace HM := Lib.hid (HM.out.below hB)
  replace HB := Lib.hid (HB.out.trans (hB.mono HB.out.size))
  clear hB HT
  go_wp2_with fail
  have q := use_any w.heap.size 1024 K0 (-1) w2 HM.out k0_ok
  rw [show turnC K0 1024 (-1) true 12 = 2 by decide, turn_out (by decide)] at q
  refine q.mono ?_
  clear q
  rintro e w3 ⟨rfl, hM, hg⟩
  have HB3 := Lib.hid (below_grown HB.out hg (Nat.le_refl _) HM.out.lt)
  have HM3 := Lib.hid hM
  clear hM hg HM HB
  go_wp2_with fail
  have q := use_any w.heap.size 1024 K0 1024 w3 HM3.out k0_ok
  rw [show turnC K0 1024 1024 true 12 = 2 by decide, turn_out (by decide)] at q
  refine q.mono ?_
  clear q
  rintro e w4 ⟨rfl, hM, hg⟩
  have HB4 := Lib.hid (below_grown HB3.out hg (Nat.le_refl _) HM3.out.lt)
  have HM4 := Lib.hid hM
  clear hM hg HM3 HB3
  go_wp2_with fail
  have q := use_any w.heap.size 1024 K0 1023 w4 HM4.out k0_ok
  rw [show turnC K0 1024 1023 true 12 = 0 by decide] at q
  refine q.mono ?_
  clear q
  rintro e w5 ⟨rfl, hM, hg⟩
  have HB5 := Lib.hid (below_grown HB4.out hg (Nat.le_refl _) HM4.out.lt)
  have HM5 : Hid (MapAt w5 w.heap.size K1 1024) := hM
  clear hM hg HM4 HB4
  go_wp2_with fail
  have q := use_any w.heap.size 1024 K1 1023 w5 HM5.out k1_ok
  rw [show turnC K1 1024 1023 true 12 = 12 by decide, k1_same] at q
  refine q.mono ?_
  clear q
  rintro e w6 ⟨rfl, hM, hg⟩
  have HB6 := Lib.hid (below_grown HB5.out hg (Nat.le_refl _) HM5.out.lt)
  have HM6 := Lib.hid hM
  clear hM hg HM5 HB5
  go_wp2_with fail
  have q := give_any w.heap.size 1024 K1 1024 w6 HM6.out k1_ok
  rw [show turnC K1 1024 1024 false 13 = 2 by decide, turn_out (by decide)] at q
  refine q.mono ?_
  clear q
  rintro e w7 ⟨rfl, hM, hg⟩
  have HB7 := Lib.hid (below_grown HB6.out hg (Nat.le_refl _) HM6.out.lt)
  have HM7 := Lib.hid hM
  clear hM hg HM6 HB6
  go_wp2_with fail
  refine (read_size 0 ⟨#[]⟩ w7 (by decide)).mono ?_
  rintro e w' ⟨rfl, rfl⟩
  go_wp2_with fail
  refine (read_any 3 ⟨#[8]⟩ w7 (by omega) (by omega) (by decide)).mono ?_
  rintro e w8 ⟨hor, hB⟩
  have hyes : e = .returned (.tuple #[.pointer none, .int .i64 5]) := by
    rcases hor with ⟨q, _⟩ | ⟨_, q⟩
    · exact absurd q c8_not
    · exact q
  subst hyes
  have HM8 := Lib.hid (HM7.out.below hB)
  have HB8 := Lib.hid (HB7.out.trans (hB.mono HB7.out.size))
  clear hor hB HM7 HB7
  go_wp2_with fail
  refine (read_any 3 ⟨#[5]⟩ w8 (by omega) (by omega) (by decide)).mono ?_
  rintro e w9 ⟨hor, hB⟩
  have hyes : e = .returned (.tuple #[.pointer (some ⟨w8.heap.size, 0, none⟩), .int .i64 0]) ∧ MapAt w9 w8.heap.size (partT [5] 3) 3 := by
    rcases hor with ⟨_, q1, q2⟩ | ⟨q, _⟩
    · exact ⟨q1, q2⟩
    · exact absurd c5_clean q
  obtain ⟨rfl, hZ⟩ := hyes
  have HZ9 := Lib.hid hZ
  have HM9 := Lib.hid (HM8.out.below hB)
  have HB9 := Lib.hid (HB8.out.trans (hB.mono HB8.out.size))
  clear hor hB hZ HM8 HB8
  go_wp2_with fail
  refine (use_nil 0 w9).mono ?_
  rintro e w' ⟨rfl, rfl⟩
  go_wp2_with fail
  refine (give_nil 0 w9).mono ?_
  rintro e w' ⟨rfl, rfl⟩
  go_wp2_with fail
  refine (len_nil w9).mono ?_
  rintro e w' ⟨rfl, rfl⟩
  go_wp2_with fail
  refine (left_nil w9).mono ?_
  rintro e w' ⟨rfl, rfl⟩
  go_wp2_with fail
  refine (has_nil 0 w9).mono ?_
  rintro e w' ⟨rfl, rfl⟩
  go_wp2_with fail
  refine (put_nil w9).mono ?_
  rintro e w10 ⟨rfl, hB⟩
  have HM10 := Lib.hid (HM9.out.below hB)
  have HZ10 := Lib.hid (HZ9.out.below hB)
  have HB10 := Lib.hid (HB9.out.trans (hB.mono HB9.out.size))
  clear hB HM9 HZ9 HB9
  go_wp2_with fail
  refine (copy_nil w10).mono ?_
  rintro e w' ⟨rfl, rfl⟩
  go_wp2_with fail
  refine (runs_nil w10).mono ?_
  rintro e w11 ⟨v, rfl, ho, hB⟩
  obtain ⟨av, cv, rfl⟩ := own_opn ho
  have HM11 := Lib.hid (HM10.out.below hB)
  have HZ11 := Lib.hid (HZ10.out.below hB)
  have HB11 := Lib.hid (HB10.out.trans (hB.mono HB10.out.size))
  clear hB ho HM10 HZ10 HB10
  go_wp2_with fail
  have q := left_any w.heap.size 1024 K1 w11 HM11.out k1_ok
  rw [k1_left] at q
  refine q.mono ?_
  clear q
  rintro e w' ⟨rfl, rfl⟩
  go_wp2_with fail
  have q := has_any w8.heap.size 3 (partT [5] 3) 0 w11 HZ11.out p5_ok
  rw [show hasB (partT [5] 3) 3 0 = true by decide] at q
  refine q.mono ?_
  clear q
  rintro e w' ⟨rfl, rfl⟩
  go_wp2_with fail
  have q := has_any w8.heap.size 3 (partT [5] 3) 1 w11 HZ11.out p5_ok
  rw [show hasB (partT [5] 3) 3 1 = false by decide] at q
  refine q.mono ?_
  clear q
  rintro e w' ⟨rfl, rfl⟩
  go_wp2_with fail
  have q := has_any w8.heap.size 3 (partT [5] 3) 2 w11 HZ11.out p5_ok
  rw [show hasB (partT [5] 3) 3 2 = true by decide] at q
  refine q.mono ?_
  clear q
  rintro e w' ⟨rfl, rfl⟩
  go_wp2_with fail
  have q := has_any w8.heap.size 3 (partT [5] 3) 3 w11 HZ11.out p5_ok
  rw [show hasB (partT [5] 3) 3 3 = false by decide] at q
  refine q.mono ?_
  clear q
  rintro e w' ⟨rfl, rfl⟩
  go_wp2_with fail
  go_ret
  exact ⟨rfl, HB11.out⟩
end Go.Proofs.YtdaeibbjoefofaaDoor
