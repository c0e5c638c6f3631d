/- The chapter's first rows. -/
import Derived.Test.YteelccgaemmmpaaDoorId7
namespace Go.Proofs.YteelccgaemmmpaaDoor
open Go.RowKit
set_option linter.unusedVariables false
set_option linter.unusedSimpArgs false

/-- What is known of the program's variables. -/
structure GW (w : World) : Prop where
  e : GE w
  p : GP w
  m : GM w
theorem GW.below {w w1 : World} (h : GW w) (hb : Below w.heap.size w w1) : GW w1 := ⟨h.e.below hb, h.p.below hb, h.m.below hb⟩
theorem lit_list (l : List UInt8) : (⟨l.toArray⟩ : ByteArray).data.toList = l := by simp
set_option maxRecDepth 100000 in
set_option maxHeartbeats 1000000 in
theorem works_any (w : World) (hG : GW w) : Calls Tryd.prog 13 #[] w fun e w' => e = .returned (.bool true) ∧ Below w.heap.size w w' := by
  have HG := Lib.hid hG
  have Q1 := Lib.hid (fun W => seat_any ⟨#[50, 70]⟩ W)
  rw [show seatV (⟨#[50, 70]⟩ : ByteArray).data.toList = 13 by decide, show seatB (⟨#[50, 70]⟩ : ByteArray).data.toList = true by decide] at Q1
  have Q2 := Lib.hid (fun W hM => seats_any ⟨#[49, 65, 32, 50, 66, 32, 56, 72]⟩ W (by decide) hM)
  rw [show seatsO (⟨#[49, 65, 32, 50, 66, 32, 56, 72]⟩ : ByteArray).data.toList = some [0, 9, 63] by decide] at Q2
  have Q3 := Lib.hid (fun W hE hM => event_any ⟨#[111, 112, 101, 114, 97, 45, 55]⟩ W (by decide) hE hM)
  rw [show eventB (⟨#[111, 112, 101, 114, 97, 45, 55]⟩ : ByteArray).data.toList = true by decide] at Q3
  have Q4 := Lib.hid (fun W hE hM => event_any ⟨#[97, 45, 45, 98]⟩ W (by decide) hE hM)
  rw [show eventB (⟨#[97, 45, 45, 98]⟩ : ByteArray).data.toList = false by decide] at Q4
  have Q5 := Lib.hid (fun W hP => person_any ⟨#[74, 46, 68, 111, 101]⟩ W (by decide) hP)
  rw [show personB (⟨#[74, 46, 68, 111, 101]⟩ : ByteArray).data.toList = true by decide] at Q5
  have Q6 := Lib.hid (fun W => label_any 13 W)
  rw [show (⟨(labL 13).toArray⟩ : ByteArray) = ⟨#[50, 70]⟩ by decide] at Q6
  have Q7 := Lib.hid (fun W => labels_any [0, 9, -1, 63] _ _ (RdS.lit W [0, 9, -1, 63] 3) (by decide))
  rw [show (⟨(labsL [0, 9, -1, 63]).toArray⟩ : ByteArray) = ⟨#[49, 65, 32, 50, 66, 32, 56, 72]⟩ by decide] at Q7
  clear hG
  go_enter Tryd.func13, Tryd.ntmps13
  go_wp2_with fail
  refine (Q1.out _).mono ?_
  rintro e w1 ⟨rfl, hB1⟩
  have HB1 := Lib.hid hB1
  clear hB1 Q1
  go_wp2_with fail
  refine (Q2.out _ (HG.out.below HB1.out).m).mono ?_
  rintro e w2 ⟨v2, rfl, hr2, hB2⟩
  replace hr2 : RdS w2 v2 [0, 9, 63] := hr2
  have HR2 := Lib.hid hr2
  have HB2 := Lib.hid (bstep HB1.out hB2)
  rw [show (some ([0, 9, 63] : List Int)).isSome = true from rfl]
  clear hB2 HB1 Q2 hr2
  go_wp2_with fail
  refine (Q3.out _ (HG.out.below HB2.out).e (HG.out.below HB2.out).m).mono ?_
  rintro e w3 ⟨rfl, hB3⟩
  have HR3 := Lib.hid (HR2.out.below hB3)
  have HB3 := Lib.hid (bstep HB2.out hB3)
  clear hB3 HB2 Q3 HR2
  go_wp2_with fail
  refine (Q4.out _ (HG.out.below HB3.out).e (HG.out.below HB3.out).m).mono ?_
  rintro e w4 ⟨rfl, hB4⟩
  have HR4 := Lib.hid (HR3.out.below hB4)
  have HB4 := Lib.hid (bstep HB3.out hB4)
  clear hB4 HB3 Q4 HR3
  go_wp2_with fail
  refine (Q5.out _ (HG.out.below HB4.out).p).mono ?_
  rintro e w5 ⟨rfl, hB5⟩
  have HR5 := Lib.hid (HR4.out.below hB5)
  have HB5 := Lib.hid (bstep HB4.out hB5)
  clear hB5 HB4 Q5 HR4
  go_wp2_with fail
  refine (Q6.out _).mono ?_
  rintro e w6 ⟨rfl, hB6⟩
  have HR6 := Lib.hid (HR5.out.below hB6)
  have HB6 := Lib.hid (bstep HB5.out hB6)
  clear hB6 HB5 Q6 HR5
  go_wp2_with fail
  refine (Q7.out _).mono ?_
  rintro e w7 ⟨rfl, hB7⟩
  have HR7 := Lib.hid (HR6.out.below (bstep (below_alloc1 _ _) hB7))
  have HB7 := Lib.hid (bstep HB6.out (bstep (below_alloc1 _ _) hB7))
  clear hB7 HB6 Q7 HR6
  go_wp2_with fail
  have q := ints_any [0, 9, 63] [0, 9, 63] v2 _ _ (HR7.out.below (below_alloc1 w7 _)) (RdS.lit w7 [0, 9, 63] 3) (by decide)
  rw [show decide (([0, 9, 63] : List Int) = [0, 9, 63]) = true by decide] at q
  refine q.mono ?_
  rintro e w8 ⟨rfl, hB8⟩
  have HB8 := Lib.hid (bstep HB7.out (bstep (below_alloc1 _ _) hB8))
  clear hB8 HB7 q
  go_wp2_with fail
  go_ret
  exact ⟨rfl, HB8.out⟩
end Go.Proofs.YteelccgaemmmpaaDoor
