/- IdentOne: the walk. -/
import Derived.Test.YteelccgaemmmpaaDoorIe1
namespace Go.Proofs.YteelccgaemmmpaaDoor
open Go.RowKit
set_option linter.unusedVariables false
set_option linter.unusedSimpArgs false

theorem labs_rise : ∀ n : Nat, n < 63 → Op.bytesLess (lab n) (lab (n + 1)) = true := by decide
theorem two_seat (a b : Int) (ha : 0 ≤ a ∧ a < 256) (hb : 0 ≤ b ∧ b < 256) : ∃ S : ByteArray, S = ⟨#[UInt8.ofNat a.toNat, UInt8.ofNat b.toNat]⟩ ∧ (49 ≤ a ∧ a ≤ 56 ∧ 65 ≤ b ∧ b ≤ 72 → seatI S.data.toList = 8 * (a - 49) + (b - 65)) ∧ (¬ (49 ≤ a ∧ a ≤ 56 ∧ 65 ≤ b ∧ b ≤ 72) → seatI S.data.toList < 0) := by
  have e1 : (UInt8.ofNat a.toNat).toNat = a.toNat := u8_toNat (by omega)
  have e2 : (UInt8.ofNat b.toNat).toNat = b.toNat := u8_toNat (by omega)
  have e : seatI (⟨#[UInt8.ofNat a.toNat, UInt8.ofNat b.toNat]⟩ : ByteArray).data.toList = if isL (UInt8.ofNat a.toNat) (UInt8.ofNat b.toNat) = true then seatN (UInt8.ofNat a.toNat) (UInt8.ofNat b.toNat) else -1 := rfl
  refine ⟨_, rfl, fun h => ?_, fun h => ?_⟩
  · rw [e, if_pos (by unfold isL; rw [e1, e2, decide_eq_true_eq]; omega)]
    unfold seatN
    rw [e1, e2]
    omega
  · rw [e, if_neg (by unfold isL; rw [e1, e2, decide_eq_true_eq]; omega)]
    omega
set_option maxRecDepth 100000 in
set_option maxHeartbeats 2000000 in
theorem one_any (a b x : Int) (w : World) (hG : GW w) (ha : 0 ≤ a ∧ a < 256) (hb : 0 ≤ b ∧ b < 256) (hx : -9223372036854775808 ≤ x ∧ x < 9223372036854775808) : Calls Tryd.prog 6 #[.int .u8 a, .int .u8 b, .int .i64 x] w fun e w' => e = .returned (.bool true) ∧ Below w.heap.size w w' := by
  have HG := Lib.hid hG
  have hcv := fun W => two_str W a b ha hb
  obtain ⟨S, hS, hS1, hS2⟩ := two_seat a b ha hb
  rw [← hS] at hcv
  have HS1 := Lib.hid hS1
  have HS2 := Lib.hid hS2
  obtain ⟨ha0, ha1⟩ := ha
  obtain ⟨hb0, hb1⟩ := hb
  have HX := Lib.hid hx
  clear hS hS1 hS2 hG hx
  go_enter Tryd.func6, Tryd.ntmps6
  go_wp2_with fail
  refine (works_any _ HG.out).mono ?_
  rintro e w0 ⟨rfl, hB0⟩
  have HB0 := Lib.hid hB0
  clear hB0
  go_wp2_with fail
  refine (seat_any S _).mono ?_
  rintro e w1 ⟨rfl, hB1⟩
  have HB1 := Lib.hid (bstep HB0.out (bstep (below_alloc1 _ _) hB1))
  clear hB1 HB0 hcv
  rcases (show (49 ≤ a ∧ a ≤ 56 ∧ 65 ≤ b ∧ b ≤ 72) ∨ (a ≤ 48 ∧ 0 ≤ b) ∨ (49 ≤ a ∧ 57 ≤ a) ∨ (49 ≤ a ∧ a ≤ 56 ∧ b ≤ 64) ∨ (49 ≤ a ∧ a ≤ 56 ∧ 65 ≤ b ∧ 73 ≤ b) by omega) with hi | ⟨i1, i2⟩ | ⟨i1, i2⟩ | ⟨i1, i2, i3⟩ | ⟨i1, i2, i3, i4⟩
  have e1 := HS1.out hi
  obtain ⟨i1, i2, i3, i4⟩ := hi
  obtain ⟨r1, r2⟩ := seat_yes (l := S.data.toList) (by omega)
  have hl := lab_seatI (l := S.data.toList) (by omega)
  have q := label_any (seatI S.data.toList)
  rw [mk_of hl] at q
  rw [r1, r2, e1]
  rw [e1] at q
  have hb2 : (S.toList == S.toList) = true := beq_self_eq_true _
  have hb3 : (S.toList != S.toList) = false := by simp
  clear r1 r2 e1 hl HS1 HS2
  rotate_left
  have e1 := HS2.out (by omega)
  obtain ⟨r1, r2⟩ := seat_no (l := S.data.toList) e1
  rw [r1, r2]
  clear r1 r2 e1 HS1 HS2
  rotate_left
  have e1 := HS2.out (by omega)
  obtain ⟨r1, r2⟩ := seat_no (l := S.data.toList) e1
  rw [r1, r2]
  clear r1 r2 e1 HS1 HS2
  rotate_left
  have e1 := HS2.out (by omega)
  obtain ⟨r1, r2⟩ := seat_no (l := S.data.toList) e1
  rw [r1, r2]
  clear r1 r2 e1 HS1 HS2
  rotate_left
  have e1 := HS2.out (by omega)
  obtain ⟨r1, r2⟩ := seat_no (l := S.data.toList) e1
  rw [r1, r2]
  clear r1 r2 e1 HS1 HS2
  rotate_left
  all_goals
    go_wp2_with fail
    first
      | (refine (q _).mono ?_
         rintro e w2 ⟨rfl, hB2⟩
         have HB2 := Lib.hid (bstep HB1.out hB2)
         clear hB2 HB1 q
         go_wp2_with fail)
      | (have HB2 := HB1
         clear HB1)
    clear ha0 ha1 hb0 hb1 i1 i2
    by_cases hx0 : x < 0
    · have q := label_any x
      rw [lab_none x (.inl hx0)] at q
      refine (q _).mono ?_
      rintro e w3 ⟨rfl, hB3⟩
      have HB3 := Lib.hid (bstep HB2.out hB3)
      clear hB3 HB2 q
      go_wp2_with fail
      have q := seat_any ⟨#[]⟩
      rw [show seatV (⟨#[]⟩ : ByteArray).data.toList = 0 by decide, show seatB (⟨#[]⟩ : ByteArray).data.toList = false by decide] at q
      refine (q _).mono ?_
      rintro e w4 ⟨rfl, hB4⟩
      go_wp2_with fail
      go_ret
      exact ⟨rfl, bstep HB3.out hB4⟩
    · by_cases hx1 : 63 < x
      · have q := label_any x
        rw [lab_none x (.inr (by omega))] at q
        refine (q _).mono ?_
        rintro e w3 ⟨rfl, hB3⟩
        have HB3 := Lib.hid (bstep HB2.out hB3)
        clear hB3 HB2 q
        go_wp2_with fail
        have q := seat_any ⟨#[]⟩
        rw [show seatV (⟨#[]⟩ : ByteArray).data.toList = 0 by decide, show seatB (⟨#[]⟩ : ByteArray).data.toList = false by decide] at q
        refine (q _).mono ?_
        rintro e w4 ⟨rfl, hB4⟩
        go_wp2_with fail
        go_ret
        exact ⟨rfl, bstep HB3.out hB4⟩
      · have hin : inS x = true := by unfold inS; rw [decide_eq_true_eq]; omega
        obtain ⟨L, hL⟩ : ∃ L : ByteArray, L = ⟨(labL x).toArray⟩ := ⟨_, rfl⟩
        have hLl : L.data.toList = labL x := by rw [hL]
        have q := label_any x
        rw [← hL] at q
        refine (q _).mono ?_
        rintro e w3 ⟨rfl, hB3⟩
        have HB3 := Lib.hid (bstep HB2.out hB3)
        clear hB3 HB2 q
        have q := seat_any L
        have hsi := seatI_labL x hin
        rw [← hLl] at hsi
        obtain ⟨r1, r2⟩ := seat_yes (l := L.data.toList) (by omega)
        rw [r1, r2, hsi] at q
        have j0 : (0 : Int) ≤ x := by omega
        have j1 : x ≤ 63 := by omega
        have HL := Lib.hid hLl
        clear r1 r2 hsi hL hLl hin hx0 hx1
        go_wp2_with fail
        refine (q _).mono ?_
        rintro e w4 ⟨rfl, hB4⟩
        have HB4 := Lib.hid (bstep HB3.out hB4)
        clear hB4 HB3 q
        by_cases hx3 : x = 63
        · subst hx3
          go_wp2_with fail
          go_ret
          exact ⟨rfl, HB4.out⟩
        · have hxn : (x == 63) = false := by simpa using hx3
          have j2 : x < 63 := by omega
          obtain ⟨M, hM⟩ : ∃ M : ByteArray, M = ⟨(labL (x + 1)).toArray⟩ := ⟨_, rfl⟩
          have hMl : M.data.toList = labL (x + 1) := by rw [hM]
          have q := label_any (x + 1)
          rw [← hM] at q
          have hless : Op.bytesLess L.toList M.toList = true := by
            rw [ByteArray.toList_eq, ByteArray.toList_eq, HL.out, hMl]
            unfold labL
            rw [if_pos (by unfold inS; rw [decide_eq_true_eq]; omega), if_pos (by unfold inS; rw [decide_eq_true_eq]; omega), show (x + 1).toNat = x.toNat + 1 by omega]
            exact labs_rise x.toNat (by omega)
          clear hM hMl hx3
          go_wp2_with fail
          refine (q _).mono ?_
          rintro e w5 ⟨rfl, hB5⟩
          go_wp2_with fail
          go_ret
          exact ⟨rfl, bstep HB4.out hB5⟩
end Go.Proofs.YteelccgaemmmpaaDoor
